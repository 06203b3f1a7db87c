/- Own text: part of the shallow reading of the code and of the contracts that are proved over it. -/
import Derived.Test.YtaflmpbeonoilaaRmF0
namespace Go.Proofs.Ytaflmpbeonoilaa
open Go Go.Sh
set_option maxRecDepth 100000
/-! (*ropewalk/reasm.Table).Held -/
noncomputable def F18_code : Code := Try.f18.body.getD .skip
theorem F18_code_ok : okC Try.prog Try.f18.ntmps F18_code = true := by kernel_rfl
def F18 (x0 : Value) (w : World) (K : Value → World → Prop) : Prop :=
  rdP x0 fun p1 => Calls Try.prog 24 #[(.pointer p1)] w fun e3 w2 => ∃ b4, e3 = .returned (.bool b4) ∧ (br (!b4) (K (.int .i64 0) w2) (nn p1 fun a5 => ldI .i64 ((a5.add 0).add 2) w2 fun n6 => K (.int .i64 n6) w2))
theorem F18_step (x0 : Value) (w : World) (K : Value → World → Prop) : (F18 x0 w K) = rsh [(0, (.one .ptr))] (args0 #[x0]) (fun t => vc Try.prog (orcOf []) [] F18_code (retQ Try.prog Try.f18 K) t w) := by kernel_rfl
theorem F18_ok {x0 : Value} {w : World} {K : Value → World → Prop} (h : F18 x0 w K) : Calls Try.prog 18 #[x0] w fun e w' => ∃ v, e = .returned v ∧ K v w' := by
  rw [F18_step] at h
  exact calls_of (c := F18_code) mixed Try.func18 rfl (nlt rfl) (vc_sound mixed (orcNil F18_code) F18_code [] rfl F18_code_ok _ _ _ (rsh_out h))

/-! (*ropewalk/reasm.Table).Chunks -/
noncomputable def F19_code : Code := Try.f19.body.getD .skip
theorem F19_code_ok : okC Try.prog Try.f19.ntmps F19_code = true := by kernel_rfl
def F19_1C (K0 : Value → World → Prop) : Post := fun o t w => match o with | .normal => False | .exit i => (match Nat.beq i 0 with | true => K0 (t 3) w | false => False) | .ret => False
def F19_1B (R : Value → Value → World → Prop) (K0 : Value → World → Prop) (x3 : Value) (x13 : Value) (w : World) : Prop :=
  rdC x3 fun l1a l1n l1c => ((∃ w2, Sem.run Try.prog (Instr.next x13 false 0) w = .ok (.tuple #[.bool false]) w2 ∧ (K0 (.slice l1a l1n l1c) w2)) ∨ (∃ k3 v4 w5, Sem.run Try.prog (Instr.next x13 false 0) w = .ok (.tuple #[.bool true, k3, v4]) w5 ∧ (∃ n6, ∃ v7, ∃ w8, Sem.run Try.prog (Instr.entry x13) w5 = .ok (.tuple #[(.int .u32 n6), v7]) w8 ∧ (alc (.cells #[(.int .u32 n6)] 30) w8 fun b9 w10 => ∃ l11a l11n l11c w12, Sem.run Try.prog (Builtin.append_ #[33, 33] 33 #[(.slice l1a l1n l1c), (.slice (some (Addr.mk b9 0 none)) 1 1)]) w10 = .ok (.slice l11a l11n l11c) w12 ∧ (R (.slice l11a l11n l11c) x13 w12)))))
def F19_1 (K0 : Value → World → Prop) : Nat → Value → Value → World → Prop
  | 0 => fun _ _ _ => False
  | n + 1 => F19_1B (F19_1 K0 n) K0
def F19_1O (Q : Post) (t : Tm) (w : World) : Prop := ∃ n, F19_1 (fun y3 w => ∀ g, rsh [(3, (.one .slc))] (upds g [(3, y3)]) fun t => Q (.exit 0) t w) n (t 3) (t 13) w
theorem F19_1_step (K0 : Value → World → Prop) (n : Nat) (t : Tm) (w : World) : (F19_1 K0 (n + 1) (t 3) (t 13) w) = rsh [(3, (.one .slc))] t (fun t => vc Try.prog (orcOf []) [0, 0, 1, 0, 1, 1, 1] (getAt F19_code [0, 0, 1, 0, 1, 1, 1]) (fun o t w => match o with | .normal => F19_1 K0 n (t 3) (t 13) w | .exit i => F19_1C K0 (.exit i) t w | .ret => F19_1C K0 .ret t w) t w) := by kernel_rfl
theorem F19_1_ok : ∀ Q t w, F19_1O Q t w → W Try.prog Try.f19.ntmps (getAt F19_code [0, 1, 0, 1, 1, 1]) Q t w := by
  intro Q t w ⟨n, h⟩
  refine (W_loop (P := Try.prog) (b := getAt F19_code [0, 0, 1, 0, 1, 1, 1]) (Q := F19_1C (fun y3 w => ∀ g, rsh [(3, (.one .slc))] (upds g [(3, y3)]) fun t => Q (.exit 0) t w)) (G := fun n t w => F19_1 (fun y3 w => ∀ g, rsh [(3, (.one .slc))] (upds g [(3, y3)]) fun t => Q (.exit 0) t w) n (t 3) (t 13) w) (fun _ _ h => h) (fun n t w h => ?_) n t w h).mono ?_
  · rw [F19_1_step] at h
    exact vc_sound mixed (orcNil F19_code) _ _ rfl (okC_at F19_code_ok [0, 0, 1, 0, 1, 1, 1]) _ _ _ (rsh_out h)
  · intro o t w q
    cases o with
    | normal => exact q.elim
    | exit i =>
      unfold F19_1C at q
      simp only at q
      split at q
      · rename_i hi
        rw [nbeq] at hi
        subst hi
        exact out_ok [3] q
      · exact q.elim
    | ret => exact q.elim
def F19 (x0 : Value) (w : World) (K : Value → World → Prop) : Prop :=
  rdP x0 fun p1 => Calls Try.prog 24 #[(.pointer p1)] w fun e3 w2 => ∃ b4, e3 = .returned (.bool b4) ∧ (br (!b4) (K (.slice none 0 0) w2) (nn p1 fun a5 => ldM ((a5.add 0).add 0) w2 fun m6 => ∃ p7, ∃ w8, Sem.run Try.prog (Instr.range 64 (.map m6)) w2 = .ok (.pointer p7) w8 ∧ (∃ k15 : Nat, F19_1 (fun y3_8 w10 => ∀ _g11 : Tm, rdC y3_8 fun l12a l12n l12c => Calls Try.prog 37 #[(.slice l12a l12n l12c)] w10 fun e14 w13 => e14 = .returned (.tuple #[]) ∧ (K (.slice l12a l12n l12c) w13)) k15 (.slice none 0 0) (.pointer p7) w8)))
theorem F19_step (x0 : Value) (w : World) (K : Value → World → Prop) : (F19 x0 w K) = rsh [(0, (.one .ptr))] (args0 #[x0]) (fun t => vc Try.prog (orcOf [([0, 1, 0, 1, 1, 1], F19_1O)]) [] F19_code (retQ Try.prog Try.f19 K) t w) := by kernel_rfl
theorem F19_ok {x0 : Value} {w : World} {K : Value → World → Prop} (h : F19 x0 w K) : Calls Try.prog 19 #[x0] w fun e w' => ∃ v, e = .returned v ∧ K v w' := by
  rw [F19_step] at h
  exact calls_of (c := F19_code) mixed Try.func19 rfl (nlt rfl) (vc_sound mixed (orcCons (π := [0, 1, 0, 1, 1, 1]) F19_1_ok (orcNil F19_code)) F19_code [] rfl F19_code_ok _ _ _ (rsh_out h))

/-! ropewalk/ropewalkref20.New -/
noncomputable def F20_code : Code := Try.f20.body.getD .skip
theorem F20_code_ok : okC Try.prog Try.f20.ntmps F20_code = true := by kernel_rfl
def F20 (x0 : Value) (x1 : Value) (w : World) (K : Value → World → Prop) : Prop :=
  rdI .i64 x0 fun n1 => rdI .i64 x1 fun n2 => br (decide ((n1 : Int) < 1)) (K (.tuple #[(.pointer none), (.int .i64 1)]) w) (br (decide ((n1 : Int) > 1024)) (K (.tuple #[(.pointer none), (.int .i64 1)]) w) (br (decide ((n2 : Int) < 1)) (K (.tuple #[(.pointer none), (.int .i64 1)]) w) (br (decide ((n2 : Int) > 1073741824)) (K (.tuple #[(.pointer none), (.int .i64 1)]) w) (∃ l3a l3n l3c, ∃ w4, Sem.run Try.prog (Instr.makeSlice 46 (.int .i64 n1) (.int .i64 n1)) w = .ok (.slice l3a l3n l3c) w4 ∧ (alc (.cells ((R85.mk n1 n2 none 0 0 none 0 0 l3a l3n l3c none 0 0 none 0 0)).c 86) w4 fun b5 w6 => K (.tuple #[(.pointer (some (Addr.mk b5 0 none))), (.int .i64 0)]) w6)))))
theorem F20_step (x0 : Value) (x1 : Value) (w : World) (K : Value → World → Prop) : (F20 x0 x1 w K) = rsh [(0, (.one (.int .i64))), (1, (.one (.int .i64)))] (args0 #[x0, x1]) (fun t => vc Try.prog (orcOf []) [] F20_code (retQ Try.prog Try.f20 K) t w) := by kernel_rfl
theorem F20_ok {x0 x1 : Value} {w : World} {K : Value → World → Prop} (h : F20 x0 x1 w K) : Calls Try.prog 20 #[x0, x1] w fun e w' => ∃ v, e = .returned v ∧ K v w' := by
  rw [F20_step] at h
  exact calls_of (c := F20_code) mixed Try.func20 rfl (nlt rfl) (vc_sound mixed (orcNil F20_code) F20_code [] rfl F20_code_ok _ _ _ (rsh_out h))

/-! ropewalk/ropewalklaw20.step -/
noncomputable def F21_code : Code := Try.f21.body.getD .skip
theorem F21_code_ok : okC Try.prog Try.f21.ntmps F21_code = true := by kernel_rfl
def F21_1C (Kr : Value → World → Prop) : Post := fun o t w => match o with | .normal => False | .exit _ => (False) | .ret => Kr (t 6) w
def F21_1 (Kr : Value → World → Prop) (x0 : Value) (x1 : Value) (x5 : Value) (w : World) : Prop :=
  rdP x0 fun p1 => rdP x1 fun p2 => rdA x5 fun a3 => drw w fun w4 => ∃ w5 : World, Pres w5 w4 ∧ (Calls Try.prog 18 #[(.pointer p1)] w4 fun e7 w6 => ∃ n8, e7 = .returned (.int .i64 n8) ∧ (Pres w5 w6 ∧ (Calls Try.prog 43 #[(.pointer p2)] w6 fun e10 w9 => ∃ n11, e10 = .returned (.int .i64 n11) ∧ (Pres w5 w9 ∧ (br (n8 == n11) (nn p2 fun a12 => ldC (a12.add 3) w5 fun _ l13n _ => Calls Try.prog 16 #[(.pointer p1)] w9 fun e15 w14 => ∃ n16, e15 = .returned (.int .i64 n16) ∧ (Pres w5 w14 ∧ (br (n16 == (l13n : Int)) (Calls Try.prog 19 #[(.pointer p1)] w14 fun e18 w17 => ∃ l19a l19n l19c, e18 = .returned (.slice l19a l19n l19c) ∧ (Pres w5 w17 ∧ (Calls Try.prog 44 #[(.pointer p2)] w17 fun e21 w20 => ∃ l22a l22n l22c, e21 = .returned (.slice l22a l22n l22c) ∧ (Pres w5 w20 ∧ (Calls Try.prog 15 #[(.slice l19a l19n l19c), (.slice l22a l22n l22c)] w20 fun e24 w23 => ∃ b25, e24 = .returned (.bool b25) ∧ (Pres w5 w23 ∧ (br b25 (ldI .u32 (a3.add 16) w23 fun n26 => ldI .u32 (a3.add 16) w5 fun n27 => Calls Try.prog 14 #[(.pointer p1), (.int .u32 n26)] w23 fun e29 w28 => ∃ l30a l30n l30c, e29 = .returned (.slice l30a l30n l30c) ∧ (Pres w5 w28 ∧ (Calls Try.prog 45 #[(.pointer p2), (.int .u32 n27)] w28 fun e32 w31 => ∃ l33a l33n l33c, e32 = .returned (.slice l33a l33n l33c) ∧ (Calls Try.prog 15 #[(.slice l30a l30n l30c), (.slice l33a l33n l33c)] w31 fun e35 w34 => ∃ b36, e35 = .returned (.bool b36) ∧ (Kr (.bool b36) w34))))) (Kr (.bool false) w23)))))))) (Kr (.bool false) w14)))) (Kr (.bool false) w9))))))
def F21_1O (Q : Post) (t : Tm) (w : World) : Prop := F21_1 (fun y6 w => ∀ g, rsh [(6, (.one .bool))] (upds g [(6, y6)]) fun t => Q .ret t w) (t 0) (t 1) (t 5) w
theorem F21_1_step (Kr : Value → World → Prop) (t : Tm) (w : World) : (F21_1 Kr (t 0) (t 1) (t 5) w) = rsh [(0, (.one .ptr)), (1, (.one .ptr)), (5, (.one .adr))] t (fun t => vc Try.prog (orcOf []) [1, 1] (getAt F21_code [1, 1]) (F21_1C Kr) t w) := by kernel_rfl
theorem F21_1_ok : ∀ Q t w, F21_1O Q t w → W Try.prog Try.f21.ntmps (getAt F21_code [1, 1]) Q t w := by
  intro Q t w h
  unfold F21_1O at h
  rw [F21_1_step] at h
  refine (vc_sound mixed (orcNil F21_code) _ _ rfl (okC_at F21_code_ok [1, 1]) _ _ _ (rsh_out h)).mono ?_
  intro o t w q
  cases o with
  | normal => exact q.elim
  | exit i => exact q.elim
  | ret => exact out_ok [6] q
def F21 (x0 : Value) (x1 : Value) (x2 : Value) (w : World) (K : Value → World → Prop) : Prop :=
  rdP x0 fun p1 => rdP x1 fun p2 => exR58 fun s3 => x2 = s3.v ∧ (alc (.cells s3.c 59) w fun b4 w5 => ldI .i64 ((Addr.mk b4 0 none).add 0) w5 fun n6 => br (n6 == 1) (drw w5 fun w7 => ∃ w8 : World, Pres w8 w7 ∧ (ldR35 ((Addr.mk b4 0 none).add 1) w7 fun s9 => ldR35 ((Addr.mk b4 0 none).add 1) w8 fun s10 => Calls Try.prog 11 #[(.pointer p1), s9.v] w7 fun e12 w11 => ∃ n13, e12 = .returned (.int .i64 n13) ∧ (Pres w8 w11 ∧ (Calls Try.prog 38 #[(.pointer p2), s10.v] w11 fun e15 w14 => ∃ n16, e15 = .returned (.int .i64 n16) ∧ (br (n13 != n16) (K (.bool false) w14) (F21_1 (fun y6_16 w18 => ∀ _g19 : Tm, rdB y6_16 fun b20 => K (.bool b20) w18) (.pointer p1) (.pointer p2) (.pointer (some (Addr.mk b4 0 none))) w14)))))) (br (n6 == 2) (Calls Try.prog 13 #[(.pointer p1)] w5 fun e22 w21 => exR38 fun s23 => ∃ b24, e22 = .returned (.tuple #[s23.v, (.bool b24)]) ∧ (alc (.cells ((R38.mk 0 0 0 false none 0 0)).c 39) w21 fun b25 w26 => stcL (Addr.mk b25 0 none) 0 s23.l w26 fun w27 => Calls Try.prog 39 #[(.pointer p2)] w27 fun e29 w28 => exR38 fun s30 => ∃ b31, e29 = .returned (.tuple #[s30.v, (.bool b31)]) ∧ (alc (.cells ((R38.mk 0 0 0 false none 0 0)).c 39) w28 fun b32 w33 => stcL (Addr.mk b32 0 none) 0 s30.l w33 fun w34 => br (!(b24 == b31)) (K (.bool false) w34) (ldR38 (Addr.mk b25 0 none) w34 fun s35 => ldR38 (Addr.mk b32 0 none) w34 fun s36 => Calls Try.prog 40 #[s35.v, s36.v] w34 fun e38 w37 => ∃ b39, e38 = .returned (.bool b39) ∧ (br (!b39) (K (.bool false) w37) (F21_1 (fun y6_39 w41 => ∀ _g42 : Tm, rdB y6_39 fun b43 => K (.bool b43) w41) (.pointer p1) (.pointer p2) (.pointer (some (Addr.mk b4 0 none))) w37)))))) (br (n6 == 3) (ldI .u32 ((Addr.mk b4 0 none).add 16) w5 fun n44 => Calls Try.prog 22 #[(.pointer p1), (.int .u32 n44)] w5 fun e46 w45 => ∃ b47, ∃ n48, e46 = .returned (.tuple #[(.bool b47), (.int .i64 n48)]) ∧ (ldI .u32 ((Addr.mk b4 0 none).add 16) w45 fun n49 => Calls Try.prog 41 #[(.pointer p2), (.int .u32 n49)] w45 fun e51 w50 => ∃ b52, ∃ n53, e51 = .returned (.tuple #[(.bool b52), (.int .i64 n53)]) ∧ (br (!(b47 == b52)) (K (.bool false) w50) (br (n48 != n53) (K (.bool false) w50) (F21_1 (fun y6_53 w55 => ∀ _g56 : Tm, rdB y6_53 fun b57 => K (.bool b57) w55) (.pointer p1) (.pointer p2) (.pointer (some (Addr.mk b4 0 none))) w50))))) (br (n6 == 4) (drw w5 fun w58 => ∃ w59 : World, Pres w59 w58 ∧ (ldI .u32 ((Addr.mk b4 0 none).add 16) w58 fun n60 => ldI .u32 ((Addr.mk b4 0 none).add 16) w59 fun n61 => Calls Try.prog 23 #[(.pointer p1), (.int .u32 n60)] w58 fun e63 w62 => ∃ n64, e63 = .returned (.int .i64 n64) ∧ (Pres w59 w62 ∧ (Calls Try.prog 42 #[(.pointer p2), (.int .u32 n61)] w62 fun e66 w65 => ∃ n67, e66 = .returned (.int .i64 n67) ∧ (br (n64 != n67) (K (.bool false) w65) (F21_1 (fun y6_67 w69 => ∀ _g70 : Tm, rdB y6_67 fun b71 => K (.bool b71) w69) (.pointer p1) (.pointer p2) (.pointer (some (Addr.mk b4 0 none))) w65)))))) (F21_1 (fun y6_71 w73 => ∀ _g74 : Tm, rdB y6_71 fun b75 => K (.bool b75) w73) (.pointer p1) (.pointer p2) (.pointer (some (Addr.mk b4 0 none))) w5)))))
theorem F21_step (x0 : Value) (x1 : Value) (x2 : Value) (w : World) (K : Value → World → Prop) : (F21 x0 x1 x2 w K) = rsh [(0, (.one .ptr)), (1, (.one .ptr)), (2, (.agg [(.int .i64), (.int .u8), (.int .u8), (.int .u32), (.int .u16), (.int .u16), (.int .u32), (.int .u32), (.int .u32), (.int .u16), (.int .u16), .slc, .slc, .slc, .slc, .slc, (.int .u32)]))] (args0 #[x0, x1, x2]) (fun t => vc Try.prog (orcOf [([1, 1], F21_1O)]) [] F21_code (retQ Try.prog Try.f21 K) t w) := by kernel_rfl
theorem F21_ok {x0 x1 x2 : Value} {w : World} {K : Value → World → Prop} (h : F21 x0 x1 x2 w K) : Calls Try.prog 21 #[x0, x1, x2] w fun e w' => ∃ v, e = .returned v ∧ K v w' := by
  rw [F21_step] at h
  exact calls_of (c := F21_code) mixed Try.func21 rfl (nlt rfl) (vc_sound mixed (orcCons (π := [1, 1]) F21_1_ok (orcNil F21_code)) F21_code [] rfl F21_code_ok _ _ _ (rsh_out h))

/-! (*ropewalk/reasm.Table).Drop -/
noncomputable def F22_code : Code := Try.f22.body.getD .skip
theorem F22_code_ok : okC Try.prog Try.f22.ntmps F22_code = true := by kernel_rfl
def F22 (x0 : Value) (x1 : Value) (w : World) (K : Value → World → Prop) : Prop :=
  rdP x0 fun p1 => rdI .u32 x1 fun n2 => alc (.cells #[(.int .u32 n2)] 30) w fun b3 w4 => Calls Try.prog 24 #[(.pointer p1)] w4 fun e6 w5 => ∃ b7, e6 = .returned (.bool b7) ∧ (br (!b7) (K (.tuple #[(.bool false), (.int .i64 4)]) w5) (drw w5 fun w8 => nn p1 fun a9 => ldM ((a9.add 0).add 0) w8 fun m10 => ldI .u32 (Addr.mk b3 0 none) w8 fun n11 => exR35 fun s12 => ∃ b13, lookF Try.prog 30 36 (.map m10) (.int .u32 n11) true w8 = some (.tuple #[s12.v, (.bool b13)]) ∧ (alc (.cells ((R35.mk 0 0 0 0 0 0 0 0 0 0 none 0 0 none 0 0 none 0 0 none 0 0 none 0 0)).c 36) w8 fun b14 w15 => Pres w8 w15 ∧ (stcL (Addr.mk b14 0 none) 0 s12.l w15 fun w16 => br (!b13) (K (.tuple #[(.bool false), (.int .i64 0)]) w16) (nn p1 fun a17 => ldC (a17.add 5) w16 fun l18a l18n l18c => Calls Try.prog 46 #[(.slice l18a l18n l18c), (.func (.func 47) #[] #[(.pointer (some (Addr.mk b3 0 none)))])] w16 fun e20 w19 => ∃ l21a l21n l21c, e20 = .returned (.slice l21a l21n l21c) ∧ (nn p1 fun a22 => stc (a22.add 5) (.slice l21a l21n l21c) w19 fun w23 => drw w23 fun w24 => nn p1 fun a25 => ldM ((a25.add 0).add 0) w24 fun m26 => ldI .u32 (Addr.mk b3 0 none) w24 fun n27 => ∃ w28, Sem.run Try.prog (Builtin.delete_ #[64, 30] 0 #[(.map m26), (.int .u32 n27)]) w24 = .ok (.tuple #[]) w28 ∧ (drw w28 fun w29 => nn p1 fun a30 => ldI .i64 ((a30.add 0).add 2) w29 fun n31 => ldC ((Addr.mk b14 0 none).add 13) w29 fun _ l32n _ => nn p1 fun a33 => stc ((a33.add 0).add 2) (.int .i64 (IntKind.wrap .i64 (n31 - (l32n : Int)))) w29 fun w34 => K (.tuple #[(.bool true), (.int .i64 0)]) w34)))))))
theorem F22_step (x0 : Value) (x1 : Value) (w : World) (K : Value → World → Prop) : (F22 x0 x1 w K) = rsh [(0, (.one .ptr)), (1, (.one (.int .u32)))] (args0 #[x0, x1]) (fun t => vc Try.prog (orcOf []) [] F22_code (retQ Try.prog Try.f22 K) t w) := by kernel_rfl
theorem F22_ok {x0 x1 : Value} {w : World} {K : Value → World → Prop} (h : F22 x0 x1 w K) : Calls Try.prog 22 #[x0, x1] w fun e w' => ∃ v, e = .returned v ∧ K v w' := by
  rw [F22_step] at h
  exact calls_of (c := F22_code) mixed Try.func22 rfl (nlt rfl) (vc_sound mixed (orcNil F22_code) F22_code [] rfl F22_code_ok _ _ _ (rsh_out h))

/-! (*ropewalk/reasm.Table).Move -/
noncomputable def F23_code : Code := Try.f23.body.getD .skip
theorem F23_code_ok : okC Try.prog Try.f23.ntmps F23_code = true := by kernel_rfl
def F23_1C (K0 : World → Prop) : Post := fun o _ w => match o with | .normal => False | .exit i => (match Nat.beq i 0 with | true => K0  w | false => False) | .ret => False
def F23_1B (R : Value → Value → Value → World → Prop) (K0 : World → Prop) (x0 : Value) (x1 : Value) (x14 : Value) (w : World) : Prop :=
  rdP x0 fun p1 => rdI .u32 x1 fun n2 => ((∃ w3, Sem.run Try.prog (Instr.next x14 false 0) w = .ok (.tuple #[.bool false]) w3 ∧ (K0 w3)) ∨ (∃ k4 v5 w6, Sem.run Try.prog (Instr.next x14 false 0) w = .ok (.tuple #[.bool true, k4, v5]) w6 ∧ (∃ n7, ∃ v8, ∃ w9, Sem.run Try.prog (Instr.entry x14) w6 = .ok (.tuple #[(.int .u32 n7), v8]) w9 ∧ (Calls Try.prog 33 #[(.int .u32 n2), (.int .u32 n7)] w9 fun e11 w10 => ∃ n12, e11 = .returned (.int .i64 n12) ∧ (br (decide ((n12 : Int) ≤ 0)) (nn p1 fun a13 => ldM ((a13.add 0).add 1) w10 fun m14 => ∃ w15, Sem.run Try.prog (Builtin.delete_ #[65, 30] 0 #[(.map m14), (.int .u32 n7)]) w10 = .ok (.tuple #[]) w15 ∧ (R (.pointer p1) (.int .u32 n2) x14 w15)) (R (.pointer p1) (.int .u32 n2) x14 w10))))))
def F23_1 (K0 : World → Prop) : Nat → Value → Value → Value → World → Prop
  | 0 => fun _ _ _ _ => False
  | n + 1 => F23_1B (F23_1 K0 n) K0
def F23_1O (Q : Post) (t : Tm) (w : World) : Prop := ∃ n, F23_1 (fun w => ∀ g, rsh [] (upds g []) fun t => Q (.exit 0) t w) n (t 0) (t 1) (t 14) w
theorem F23_1_step (K0 : World → Prop) (n : Nat) (t : Tm) (w : World) : (F23_1 K0 (n + 1) (t 0) (t 1) (t 14) w) = rsh [(0, (.one .ptr)), (1, (.one (.int .u32)))] t (fun t => vc Try.prog (orcOf []) [0, 0, 1, 0, 1, 1] (getAt F23_code [0, 0, 1, 0, 1, 1]) (fun o t w => match o with | .normal => F23_1 K0 n (t 0) (t 1) (t 14) w | .exit i => F23_1C K0 (.exit i) t w | .ret => F23_1C K0 .ret t w) t w) := by kernel_rfl
theorem F23_1_ok : ∀ Q t w, F23_1O Q t w → W Try.prog Try.f23.ntmps (getAt F23_code [0, 1, 0, 1, 1]) Q t w := by
  intro Q t w ⟨n, h⟩
  refine (W_loop (P := Try.prog) (b := getAt F23_code [0, 0, 1, 0, 1, 1]) (Q := F23_1C (fun w => ∀ g, rsh [] (upds g []) fun t => Q (.exit 0) t w)) (G := fun n t w => F23_1 (fun w => ∀ g, rsh [] (upds g []) fun t => Q (.exit 0) t w) n (t 0) (t 1) (t 14) w) (fun _ _ h => h) (fun n t w h => ?_) n t w h).mono ?_
  · rw [F23_1_step] at h
    exact vc_sound mixed (orcNil F23_code) _ _ rfl (okC_at F23_code_ok [0, 0, 1, 0, 1, 1]) _ _ _ (rsh_out h)
  · intro o t w q
    cases o with
    | normal => exact q.elim
    | exit i =>
      unfold F23_1C at q
      simp only at q
      split at q
      · rename_i hi
        rw [nbeq] at hi
        subst hi
        exact out_ok [] q
      · exact q.elim
    | ret => exact q.elim
def F23 (x0 : Value) (x1 : Value) (w : World) (K : Value → World → Prop) : Prop :=
  rdP x0 fun p1 => rdI .u32 x1 fun n2 => Calls Try.prog 24 #[(.pointer p1)] w fun e4 w3 => ∃ b5, e4 = .returned (.bool b5) ∧ (br (!b5) (K (.int .i64 4) w3) (nn p1 fun a6 => ldM ((a6.add 0).add 1) w3 fun m7 => ∃ p8, ∃ w9, Sem.run Try.prog (Instr.range 65 (.map m7)) w3 = .ok (.pointer p8) w9 ∧ (∃ k13 : Nat, F23_1 (fun w11 => ∀ _g12 : Tm, K (.int .i64 0) w11) k13 (.pointer p1) (.int .u32 n2) (.pointer p8) w9)))
theorem F23_step (x0 : Value) (x1 : Value) (w : World) (K : Value → World → Prop) : (F23 x0 x1 w K) = rsh [(0, (.one .ptr)), (1, (.one (.int .u32)))] (args0 #[x0, x1]) (fun t => vc Try.prog (orcOf [([0, 1, 0, 1, 1], F23_1O)]) [] F23_code (retQ Try.prog Try.f23 K) t w) := by kernel_rfl
theorem F23_ok {x0 x1 : Value} {w : World} {K : Value → World → Prop} (h : F23 x0 x1 w K) : Calls Try.prog 23 #[x0, x1] w fun e w' => ∃ v, e = .returned v ∧ K v w' := by
  rw [F23_step] at h
  exact calls_of (c := F23_code) mixed Try.func23 rfl (nlt rfl) (vc_sound mixed (orcCons (π := [0, 1, 0, 1, 1]) F23_1_ok (orcNil F23_code)) F23_code [] rfl F23_code_ok _ _ _ (rsh_out h))

/-! (*ropewalk/reasm.Table).is -/
noncomputable def F24_code : Code := Try.f24.body.getD .skip
theorem F24_code_ok : okC Try.prog Try.f24.ntmps F24_code = true := by kernel_rfl
def F24 (x0 : Value) (w : World) (K : Value → World → Prop) : Prop :=
  rdP x0 fun p1 => br (!(Option.isNone p1)) (nn p1 fun a2 => ldM ((a2.add 0).add 0) w fun m3 => K (.bool (!(Option.isNone m3))) w) (K (.bool false) w)
theorem F24_step (x0 : Value) (w : World) (K : Value → World → Prop) : (F24 x0 w K) = rsh [(0, (.one .ptr))] (args0 #[x0]) (fun t => vc Try.prog (orcOf []) [] F24_code (retQ Try.prog Try.f24 K) t w) := by kernel_rfl
theorem F24_ok {x0 : Value} {w : World} {K : Value → World → Prop} (h : F24 x0 w K) : Calls Try.prog 24 #[x0] w fun e w' => ∃ v, e = .returned v ∧ K v w' := by
  rw [F24_step] at h
  exact calls_of (c := F24_code) mixed Try.func24 rfl (nlt rfl) (vc_sound mixed (orcNil F24_code) F24_code [] rfl F24_code_ok _ _ _ (rsh_out h))

/-! (*ropewalk/reasm.store).known -/
noncomputable def F25_code : Code := Try.f25.body.getD .skip
theorem F25_code_ok : okC Try.prog Try.f25.ntmps F25_code = true := by kernel_rfl
def F25 (x0 : Value) (x1 : Value) (w : World) (K : Value → World → Prop) : Prop :=
  rdP x0 fun p1 => rdI .u32 x1 fun n2 => nn p1 fun a3 => ldM (a3.add 0) w fun m4 => exR35 fun s5 => ∃ b6, lookF Try.prog 30 36 (.map m4) (.int .u32 n2) true w = some (.tuple #[s5.v, (.bool b6)]) ∧ (alc (.cells ((R35.mk 0 0 0 0 0 0 0 0 0 0 none 0 0 none 0 0 none 0 0 none 0 0 none 0 0)).c 36) w fun b7 w8 => stcL (Addr.mk b7 0 none) 0 s5.l w8 fun w9 => br b6 (K (.bool true) w9) (nn p1 fun a10 => ldM (a10.add 1) w9 fun m11 => ∃ b12, lookF Try.prog 30 4 (.map m11) (.int .u32 n2) false w9 = some (.bool b12) ∧ (K (.bool b12) w9)))
theorem F25_step (x0 : Value) (x1 : Value) (w : World) (K : Value → World → Prop) : (F25 x0 x1 w K) = rsh [(0, (.one .ptr)), (1, (.one (.int .u32)))] (args0 #[x0, x1]) (fun t => vc Try.prog (orcOf []) [] F25_code (retQ Try.prog Try.f25 K) t w) := by kernel_rfl
theorem F25_ok {x0 x1 : Value} {w : World} {K : Value → World → Prop} (h : F25 x0 x1 w K) : Calls Try.prog 25 #[x0, x1] w fun e w' => ∃ v, e = .returned v ∧ K v w' := by
  rw [F25_step] at h
  exact calls_of (c := F25_code) mixed Try.func25 rfl (nlt rfl) (vc_sound mixed (orcNil F25_code) F25_code [] rfl F25_code_ok _ _ _ (rsh_out h))

/-! (*ropewalk/reasm.store).many -/
noncomputable def F26_code : Code := Try.f26.body.getD .skip
theorem F26_code_ok : okC Try.prog Try.f26.ntmps F26_code = true := by kernel_rfl
def F26 (x0 : Value) (w : World) (K : Value → World → Prop) : Prop :=
  rdP x0 fun p1 => drw w fun w2 => nn p1 fun a3 => ldM (a3.add 0) w2 fun m4 => nn p1 fun a5 => ldM (a5.add 1) w2 fun m6 => ∃ n7 w8, Sem.run Try.prog (Builtin.len_ #[64] 3 #[(.map m4)]) w2 = .ok (.int .i64 n7) w8 ∧ (Pres w2 w8 ∧ (∃ n9 w10, Sem.run Try.prog (Builtin.len_ #[65] 3 #[(.map m6)]) w8 = .ok (.int .i64 n9) w10 ∧ (K (.int .i64 (IntKind.wrap .i64 (n7 + n9))) w10)))
theorem F26_step (x0 : Value) (w : World) (K : Value → World → Prop) : (F26 x0 w K) = rsh [(0, (.one .ptr))] (args0 #[x0]) (fun t => vc Try.prog (orcOf []) [] F26_code (retQ Try.prog Try.f26 K) t w) := by kernel_rfl
theorem F26_ok {x0 : Value} {w : World} {K : Value → World → Prop} (h : F26 x0 w K) : Calls Try.prog 26 #[x0] w fun e w' => ∃ v, e = .returned v ∧ K v w' := by
  rw [F26_step] at h
  exact calls_of (c := F26_code) mixed Try.func26 rfl (nlt rfl) (vc_sound mixed (orcNil F26_code) F26_code [] rfl F26_code_ok _ _ _ (rsh_out h))

/-! slices.Clone[[]byte,byte] -/
noncomputable def F27_code : Code := Try.f27.body.getD .skip
theorem F27_code_ok : okC Try.prog Try.f27.ntmps F27_code = true := by kernel_rfl
def F27 (x0 : Value) (w : World) (K : Value → World → Prop) : Prop :=
  rdC x0 fun l1a l1n l1c => br (Option.isNone l1a) (K (.slice none 0 0) w) (∃ l2a l2n l2c, ∃ w3, Sem.run Try.prog (Instr.buildSlice 22 0 #[]) w = .ok (.slice l2a l2n l2c) w3 ∧ (∃ l4a l4n l4c w5, Sem.run Try.prog (Builtin.append_ #[22, 22] 22 #[(.slice l2a l2n l2c), (.slice l1a l1n l1c)]) w3 = .ok (.slice l4a l4n l4c) w5 ∧ (K (.slice l4a l4n l4c) w5)))
theorem F27_step (x0 : Value) (w : World) (K : Value → World → Prop) : (F27 x0 w K) = rsh [(0, (.one .slc))] (args0 #[x0]) (fun t => vc Try.prog (orcOf []) [] F27_code (retQ Try.prog Try.f27 K) t w) := by kernel_rfl
theorem F27_ok {x0 : Value} {w : World} {K : Value → World → Prop} (h : F27 x0 w K) : Calls Try.prog 27 #[x0] w fun e w' => ∃ v, e = .returned v ∧ K v w' := by
  rw [F27_step] at h
  exact calls_of (c := F27_code) mixed Try.func27 rfl (nlt rfl) (vc_sound mixed (orcNil F27_code) F27_code [] rfl F27_code_ok _ _ _ (rsh_out h))

/-! slices.Collect[uint32] -/
noncomputable def F28_code : Code := Try.f28.body.getD .skip
theorem F28_code_ok : okC Try.prog Try.f28.ntmps F28_code = true := by kernel_rfl
def F28 (x0 : Value) (w : World) (K : Value → World → Prop) : Prop :=
  Calls Try.prog 49 #[(.slice none 0 0), x0] w fun e2 w1 => ∃ l3a l3n l3c, e2 = .returned (.slice l3a l3n l3c) ∧ (K (.slice l3a l3n l3c) w1)
theorem F28_step (x0 : Value) (w : World) (K : Value → World → Prop) : (F28 x0 w K) = rsh [] (args0 #[x0]) (fun t => vc Try.prog (orcOf []) [] F28_code (retQ Try.prog Try.f28 K) t w) := by kernel_rfl
theorem F28_ok {x0 : Value} {w : World} {K : Value → World → Prop} (h : F28 x0 w K) : Calls Try.prog 28 #[x0] w fun e w' => ∃ v, e = .returned v ∧ K v w' := by
  rw [F28_step] at h
  exact calls_of (c := F28_code) mixed Try.func28 rfl (nlt rfl) (vc_sound mixed (orcNil F28_code) F28_code [] rfl F28_code_ok _ _ _ (rsh_out h))

/-! (*ropewalk/reasm.store).row -/
noncomputable def F29_code : Code := Try.f29.body.getD .skip
theorem F29_code_ok : okC Try.prog Try.f29.ntmps F29_code = true := by kernel_rfl
def F29 (x0 : Value) (x1 : Value) (w : World) (K : Value → World → Prop) : Prop :=
  rdP x0 fun p1 => rdI .u32 x1 fun n2 => alc (.cells #[(.pointer p1)] 92) w fun b3 w4 => alc (.cells #[(.int .u32 n2)] 30) w4 fun b5 w6 => K (.func (.func 50) #[] #[(.pointer (some (Addr.mk b3 0 none))), (.pointer (some (Addr.mk b5 0 none)))]) w6
theorem F29_step (x0 : Value) (x1 : Value) (w : World) (K : Value → World → Prop) : (F29 x0 x1 w K) = rsh [(0, (.one .ptr)), (1, (.one (.int .u32)))] (args0 #[x0, x1]) (fun t => vc Try.prog (orcOf []) [] F29_code (retQ Try.prog Try.f29 K) t w) := by kernel_rfl
theorem F29_ok {x0 x1 : Value} {w : World} {K : Value → World → Prop} (h : F29 x0 x1 w K) : Calls Try.prog 29 #[x0, x1] w fun e w' => ∃ v, e = .returned v ∧ K v w' := by
  rw [F29_step] at h
  exact calls_of (c := F29_code) mixed Try.func29 rfl (nlt rfl) (vc_sound mixed (orcNil F29_code) F29_code [] rfl F29_code_ok _ _ _ (rsh_out h))

/-! ropewalk/reasm.has -/
noncomputable def F30_code : Code := Try.f30.body.getD .skip
theorem F30_code_ok : okC Try.prog Try.f30.ntmps F30_code = true := by kernel_rfl
def F30 (x0 : Value) (x1 : Value) (w : World) (K : Value → World → Prop) : Prop :=
  exR35 fun s1 => x0 = s1.v ∧ (rdI .u8 x1 fun n2 => alc (.cells s1.c 36) w fun b3 w4 => ldI .u8 ((Addr.mk b3 0 none).add 1) w4 fun n5 => K (.bool ((bitI .and .u8 n5 n2) != 0)) w4)
theorem F30_step (x0 : Value) (x1 : Value) (w : World) (K : Value → World → Prop) : (F30 x0 x1 w K) = rsh [(0, (.agg [(.int .u8), (.int .u8), (.int .u32), (.int .u16), (.int .u16), (.int .u32), (.int .u32), (.int .u32), (.int .u16), (.int .u16), .slc, .slc, .slc, .slc, .slc])), (1, (.one (.int .u8)))] (args0 #[x0, x1]) (fun t => vc Try.prog (orcOf []) [] F30_code (retQ Try.prog Try.f30 K) t w) := by kernel_rfl
theorem F30_ok {x0 x1 : Value} {w : World} {K : Value → World → Prop} (h : F30 x0 x1 w K) : Calls Try.prog 30 #[x0, x1] w fun e w' => ∃ v, e = .returned v ∧ K v w' := by
  rw [F30_step] at h
  exact calls_of (c := F30_code) mixed Try.func30 rfl (nlt rfl) (vc_sound mixed (orcNil F30_code) F30_code [] rfl F30_code_ok _ _ _ (rsh_out h))

/-! (*ropewalk/reasm.Table).tell -/
noncomputable def F31_code : Code := Try.f31.body.getD .skip
theorem F31_code_ok : okC Try.prog Try.f31.ntmps F31_code = true := by kernel_rfl
def F31_1C (K0 : Value → Value → World → Prop) : Post := fun o t w => match o with | .normal => False | .exit i => (match Nat.beq i 0 with | true => K0 (t 0) (t 5) w | false => False) | .ret => False
def F31_1B (R : Value → Value → Value → Value → Value → World → Prop) (K0 : Value → Value → World → Prop) (x0 : Value) (x5 : Value) (x29 : Value) (x30 : Value) (x31 : Value) (w : World) : Prop :=
  rdP x0 fun p1 => rdA x5 fun a2 => rdC x29 fun l3a l3n l3c => rdI .i64 x30 fun n4 => rdI .i64 x31 fun n5 => br (decide ((n5 : Int) < n4)) (ixS 1 l3a l3n n5 fun a6 => ldI .u32 a6 w fun n7 => drw w fun w8 => ldC (a2.add 4) w8 fun l9a l9n l9c => nn p1 fun a10 => ldM ((a10.add 0).add 0) w8 fun m11 => exR35 fun s12 => lookF Try.prog 30 36 (.map m11) (.int .u32 n7) false w8 = some s12.v ∧ (∃ l13a l13n l13c w14, Sem.run Try.prog (Builtin.append_ #[22, 22] 22 #[(.slice l9a l9n l9c), (.slice s12.f13a s12.f13n s12.f13c)]) w8 = .ok (.slice l13a l13n l13c) w14 ∧ (stc (a2.add 4) (.slice l13a l13n l13c) w14 fun w15 => nn p1 fun a16 => ldM ((a16.add 0).add 0) w15 fun m17 => ∃ w18, Sem.run Try.prog (Builtin.delete_ #[64, 30] 0 #[(.map m17), (.int .u32 n7)]) w15 = .ok (.tuple #[]) w18 ∧ (nn p1 fun a19 => ldM ((a19.add 0).add 1) w18 fun m20 => ∃ w21, Sem.run Try.prog (Instr.mapUpdate 65 (.map m20) (.int .u32 n7) (.bool true)) w18 = .ok () w21 ∧ (R (.pointer p1) (.pointer (some a2)) (.slice l3a l3n l3c) (.int .i64 n4) (.int .i64 (IntKind.wrap .i64 (n5 + 1))) w21))))) (K0 (.pointer p1) (.pointer (some a2)) w)
def F31_1 (K0 : Value → Value → World → Prop) : Nat → Value → Value → Value → Value → Value → World → Prop
  | 0 => fun _ _ _ _ _ _ => False
  | n + 1 => F31_1B (F31_1 K0 n) K0
def F31_1O (Q : Post) (t : Tm) (w : World) : Prop := ∃ n, F31_1 (fun y0 y5 w => ∀ g, rsh [(0, (.one .ptr)), (5, (.one .adr))] (upds g [(0, y0), (5, y5)]) fun t => Q (.exit 0) t w) n (t 0) (t 5) (t 29) (t 30) (t 31) w
theorem F31_1_step (K0 : Value → Value → World → Prop) (n : Nat) (t : Tm) (w : World) : (F31_1 K0 (n + 1) (t 0) (t 5) (t 29) (t 30) (t 31) w) = rsh [(0, (.one .ptr)), (5, (.one .adr)), (29, (.one .slc)), (30, (.one (.int .i64))), (31, (.one (.int .i64)))] t (fun t => vc Try.prog (orcOf []) [0, 0, 1, 0, 1, 1, 1] (getAt F31_code [0, 0, 1, 0, 1, 1, 1]) (fun o t w => match o with | .normal => F31_1 K0 n (t 0) (t 5) (t 29) (t 30) (t 31) w | .exit i => F31_1C K0 (.exit i) t w | .ret => F31_1C K0 .ret t w) t w) := by kernel_rfl
theorem F31_1_ok : ∀ Q t w, F31_1O Q t w → W Try.prog Try.f31.ntmps (getAt F31_code [0, 1, 0, 1, 1, 1]) Q t w := by
  intro Q t w ⟨n, h⟩
  refine (W_loop (P := Try.prog) (b := getAt F31_code [0, 0, 1, 0, 1, 1, 1]) (Q := F31_1C (fun y0 y5 w => ∀ g, rsh [(0, (.one .ptr)), (5, (.one .adr))] (upds g [(0, y0), (5, y5)]) fun t => Q (.exit 0) t w)) (G := fun n t w => F31_1 (fun y0 y5 w => ∀ g, rsh [(0, (.one .ptr)), (5, (.one .adr))] (upds g [(0, y0), (5, y5)]) fun t => Q (.exit 0) t w) n (t 0) (t 5) (t 29) (t 30) (t 31) w) (fun _ _ h => h) (fun n t w h => ?_) n t w h).mono ?_
  · rw [F31_1_step] at h
    exact vc_sound mixed (orcNil F31_code) _ _ rfl (okC_at F31_code_ok [0, 0, 1, 0, 1, 1, 1]) _ _ _ (rsh_out h)
  · intro o t w q
    cases o with
    | normal => exact q.elim
    | exit i =>
      unfold F31_1C at q
      simp only at q
      split at q
      · rename_i hi
        rw [nbeq] at hi
        subst hi
        exact out_ok [0, 5] q
      · exact q.elim
    | ret => exact q.elim
def F31_2C (Kn : World → Prop) : Post := fun o _ w => match o with | .normal => Kn  w | .exit _ => (False) | .ret => False
def F31_2 (Kn : World → Prop) (x0 : Value) (x1 : Value) (x5 : Value) (w : World) : Prop :=
  rdP x0 fun p1 => rdC x1 fun l2a l2n l2c => rdA x5 fun a3 => ∃ k19 : Nat, F31_1 (fun y0_3 y5_3 w5 => ∀ _g6 : Tm, rdP y0_3 fun p7 => rdA y5_3 fun a8 => drw w5 fun w9 => nn p7 fun a10 => ldC (a10.add 6) w9 fun l11a l11n l11c => ldR38 a8 w9 fun s12 => alc (.cells s12.c 39) w9 fun b13 w14 => Pres w9 w14 ∧ (∃ l15a l15n l15c w16, Sem.run Try.prog (Builtin.append_ #[49, 49] 49 #[(.slice l11a l11n l11c), (.slice (some (Addr.mk b13 0 none)) 1 1)]) w14 = .ok (.slice l15a l15n l15c) w16 ∧ (nn p7 fun a17 => stc (a17.add 6) (.slice l15a l15n l15c) w16 fun w18 => Kn w18))) k19 (.pointer p1) (.pointer (some a3)) (.slice l2a l2n l2c) (.int .i64 (l2n : Int)) (.int .i64 0) w
def F31_2O (Q : Post) (t : Tm) (w : World) : Prop := F31_2 (fun w => ∀ g, rsh [] (upds g []) fun t => Q .normal t w) (t 0) (t 1) (t 5) w
theorem F31_2_step (Kn : World → Prop) (t : Tm) (w : World) : (F31_2 Kn (t 0) (t 1) (t 5) w) = rsh [(0, (.one .ptr)), (1, (.one .slc)), (5, (.one .adr))] t (fun t => vc Try.prog (orcOf [([0, 1, 0, 1, 1, 1], F31_1O)]) [1, 1, 1] (getAt F31_code [1, 1, 1]) (F31_2C Kn) t w) := by kernel_rfl
theorem F31_2_ok : ∀ Q t w, F31_2O Q t w → W Try.prog Try.f31.ntmps (getAt F31_code [1, 1, 1]) Q t w := by
  intro Q t w h
  unfold F31_2O at h
  rw [F31_2_step] at h
  refine (vc_sound mixed (orcCons (π := [0, 1, 0, 1, 1, 1]) F31_1_ok (orcNil F31_code)) _ _ rfl (okC_at F31_code_ok [1, 1, 1]) _ _ _ (rsh_out h)).mono ?_
  intro o t w q
  cases o with
  | normal => exact out_ok [] q
  | exit i => exact q.elim
  | ret => exact q.elim
def F31_3C (Kn : World → Prop) : Post := fun o _ w => match o with | .normal => Kn  w | .exit _ => (False) | .ret => False
def F31_3 (Kn : World → Prop) (x0 : Value) (x1 : Value) (x5 : Value) (w : World) : Prop :=
  rdP x0 fun p1 => rdC x1 fun l2a l2n l2c => rdA x5 fun a3 => ldB (a3.add 3) w fun b4 => br b4 (stc (a3.add 1) (.int .u16 0) w fun w5 => F31_2 (fun w7 => ∀ _g8 : Tm, Kn w7) (.pointer p1) (.slice l2a l2n l2c) (.pointer (some a3)) w5) (F31_2 (fun w10 => ∀ _g11 : Tm, Kn w10) (.pointer p1) (.slice l2a l2n l2c) (.pointer (some a3)) w)
def F31_3O (Q : Post) (t : Tm) (w : World) : Prop := F31_3 (fun w => ∀ g, rsh [] (upds g []) fun t => Q .normal t w) (t 0) (t 1) (t 5) w
theorem F31_3_step (Kn : World → Prop) (t : Tm) (w : World) : (F31_3 Kn (t 0) (t 1) (t 5) w) = rsh [(0, (.one .ptr)), (1, (.one .slc)), (5, (.one .adr))] t (fun t => vc Try.prog (orcOf [([0, 1, 0, 1, 1, 1], F31_1O), ([1, 1, 1], F31_2O)]) [1, 1] (getAt F31_code [1, 1]) (F31_3C Kn) t w) := by kernel_rfl
theorem F31_3_ok : ∀ Q t w, F31_3O Q t w → W Try.prog Try.f31.ntmps (getAt F31_code [1, 1]) Q t w := by
  intro Q t w h
  unfold F31_3O at h
  rw [F31_3_step] at h
  refine (vc_sound mixed (orcCons (π := [0, 1, 0, 1, 1, 1]) F31_1_ok (orcCons (π := [1, 1, 1]) F31_2_ok (orcNil F31_code))) _ _ rfl (okC_at F31_code_ok [1, 1]) _ _ _ (rsh_out h)).mono ?_
  intro o t w q
  cases o with
  | normal => exact out_ok [] q
  | exit i => exact q.elim
  | ret => exact q.elim
def F31 (x0 : Value) (x1 : Value) (w : World) (K : Value → World → Prop) : Prop :=
  rdP x0 fun p1 => rdC x1 fun l2a l2n l2c => drw w fun w3 => nn p1 fun a4 => ldM ((a4.add 0).add 0) w3 fun m5 => ixS 1 l2a l2n 0 fun a6 => ldI .u32 a6 w3 fun n7 => exR35 fun s8 => lookF Try.prog 30 36 (.map m5) (.int .u32 n7) false w3 = some s8.v ∧ (alc (.cells ((R35.mk 0 0 0 0 0 0 0 0 0 0 none 0 0 none 0 0 none 0 0 none 0 0 none 0 0)).c 36) w3 fun b9 w10 => Pres w3 w10 ∧ (stcL (Addr.mk b9 0 none) 0 s8.l w10 fun w11 => drw w11 fun w12 => ∃ w13 : World, Pres w13 w12 ∧ (ldI .u16 ((Addr.mk b9 0 none).add 3) w13 fun n14 => ldI .u16 ((Addr.mk b9 0 none).add 4) w13 fun n15 => ldI .u32 ((Addr.mk b9 0 none).add 5) w13 fun n16 => ldR35 (Addr.mk b9 0 none) w13 fun s17 => ((Calls Try.prog 30 #[s17.v, (.int .u8 4)] w12 fun e19 w18 => ∃ b20, e19 = .returned (.bool b20) ∧ (Pres w13 w18 ∧ (alc (.cells ((R38.mk 0 0 0 false none 0 0)).c 39) w18 fun b21 w22 => Pres w13 w22 ∧ (stcL (Addr.mk b21 0 none) 0 (R38.mk n14 n15 n16 b20 none 0 0).l w22 fun w23 => F31_3 (fun w25 => ∀ _g26 : Tm, K (.tuple #[]) w25) (.pointer p1) (.slice l2a l2n l2c) (.pointer (some (Addr.mk b21 0 none))) w23)))) ∧ (alc (.cells ((R38.mk 0 0 0 false none 0 0)).c 39) w12 fun b27 w28 => Pres w13 w28 ∧ (Calls Try.prog 30 #[s17.v, (.int .u8 4)] w28 fun e30 w29 => ∃ b31, e30 = .returned (.bool b31) ∧ (Pres w13 w29 ∧ (stcL (Addr.mk b27 0 none) 0 (R38.mk n14 n15 n16 b31 none 0 0).l w29 fun w32 => F31_3 (fun w34 => ∀ _g35 : Tm, K (.tuple #[]) w34) (.pointer p1) (.slice l2a l2n l2c) (.pointer (some (Addr.mk b27 0 none))) w32))))))))
theorem F31_step (x0 : Value) (x1 : Value) (w : World) (K : Value → World → Prop) : (F31 x0 x1 w K) = rsh [(0, (.one .ptr)), (1, (.one .slc))] (args0 #[x0, x1]) (fun t => vc Try.prog (orcOf [([0, 1, 0, 1, 1, 1], F31_1O), ([1, 1, 1], F31_2O), ([1, 1], F31_3O)]) [] F31_code (retQ Try.prog Try.f31 K) t w) := by kernel_rfl
theorem F31_ok {x0 x1 : Value} {w : World} {K : Value → World → Prop} (h : F31 x0 x1 w K) : Calls Try.prog 31 #[x0, x1] w fun e w' => ∃ v, e = .returned v ∧ K v w' := by
  rw [F31_step] at h
  exact calls_of (c := F31_code) mixed Try.func31 rfl (nlt rfl) (vc_sound mixed (orcCons (π := [0, 1, 0, 1, 1, 1]) F31_1_ok (orcCons (π := [1, 1, 1]) F31_2_ok (orcCons (π := [1, 1]) F31_3_ok (orcNil F31_code)))) F31_code [] rfl F31_code_ok _ _ _ (rsh_out h))

/-! (*ropewalk/reasm.Table).turn -/
noncomputable def F32_code : Code := Try.f32.body.getD .skip
theorem F32_code_ok : okC Try.prog Try.f32.ntmps F32_code = true := by kernel_rfl
def F32_1C (Kr : World → Prop) : Post := fun o _ w => match o with | .normal => False | .exit _ => (False) | .ret => Kr  w
def F32_1B (R : Value → Value → World → Prop) (Kr : World → Prop) (x2 : Value) (x3 : Value) (w : World) : Prop :=
  rdA x2 fun a1 => rdA x3 fun a2 => ldP a1 w fun p3 => nn p3 fun a4 => ldC (a4.add 5) w fun l5a l5n l5c => Calls Try.prog 52 #[(.slice l5a l5n l5c), (.func (.func 53) #[] #[(.pointer (some a1)), (.pointer (some a2))])] w fun e7 w6 => ∃ n8, e7 = .returned (.int .i64 n8) ∧ (br (decide ((n8 : Int) < 0)) (Kr w6) (ldP a1 w6 fun p9 => nn p9 fun a10 => ldC (a10.add 5) w6 fun l11a l11n _ => ixS 1 l11a l11n n8 fun a12 => ldC a12 w6 fun l13a l13n l13c => drw w6 fun w14 => ∃ w15 : World, Pres w15 w14 ∧ (ldP a1 w15 fun p16 => ldP a1 w14 fun p17 => nn p17 fun a18 => ldC (a18.add 5) w14 fun l19a l19n l19c => Calls Try.prog 54 #[(.slice l19a l19n l19c), (.int .i64 n8), (.int .i64 (IntKind.wrap .i64 (n8 + 1)))] w14 fun e21 w20 => ∃ l22a l22n l22c, e21 = .returned (.slice l22a l22n l22c) ∧ (Pres w15 w20 ∧ (nn p16 fun a23 => stc (a23.add 5) (.slice l22a l22n l22c) w20 fun w24 => drw w24 fun w25 => ldP a1 w25 fun p26 => nn p26 fun a27 => ldC (a27.add 3) w25 fun l28a l28n _ => ldI .u16 a2 w25 fun n29 => ixS 1 l28a l28n n29 fun a30 => ldI .u16 a30 w25 fun n31 => ixS 1 l28a l28n n29 fun a32 => stc a32 (.int .u16 (IntKind.wrap .u16 (n31 + 1))) w25 fun w33 => ldP a1 w33 fun p34 => Calls Try.prog 31 #[(.pointer p34), (.slice l13a l13n l13c)] w33 fun e36 w35 => e36 = .returned (.tuple #[]) ∧ (R (.pointer (some a1)) (.pointer (some a2)) w35))))))
def F32_1 (Kr : World → Prop) : Nat → Value → Value → World → Prop
  | 0 => fun _ _ _ => False
  | n + 1 => F32_1B (F32_1 Kr n) Kr
def F32_1O (Q : Post) (t : Tm) (w : World) : Prop := ∃ n, F32_1 (fun w => ∀ g, rsh [] (upds g []) fun t => Q .ret t w) n (t 2) (t 3) w
theorem F32_1_step (Kr : World → Prop) (n : Nat) (t : Tm) (w : World) : (F32_1 Kr (n + 1) (t 2) (t 3) w) = rsh [(2, (.one .adr)), (3, (.one .adr))] t (fun t => vc Try.prog (orcOf []) [0, 0, 1] (getAt F32_code [0, 0, 1]) (fun o t w => match o with | .normal => F32_1 Kr n (t 2) (t 3) w | .exit i => F32_1C Kr (.exit i) t w | .ret => F32_1C Kr .ret t w) t w) := by kernel_rfl
theorem F32_1_ok : ∀ Q t w, F32_1O Q t w → W Try.prog Try.f32.ntmps (getAt F32_code [0, 1]) Q t w := by
  intro Q t w ⟨n, h⟩
  refine (W_loop (P := Try.prog) (b := getAt F32_code [0, 0, 1]) (Q := F32_1C (fun w => ∀ g, rsh [] (upds g []) fun t => Q .ret t w)) (G := fun n t w => F32_1 (fun w => ∀ g, rsh [] (upds g []) fun t => Q .ret t w) n (t 2) (t 3) w) (fun _ _ h => h) (fun n t w h => ?_) n t w h).mono ?_
  · rw [F32_1_step] at h
    exact vc_sound mixed (orcNil F32_code) _ _ rfl (okC_at F32_code_ok [0, 0, 1]) _ _ _ (rsh_out h)
  · intro o t w q
    cases o with
    | normal => exact q.elim
    | exit i => exact q.elim
    | ret => exact out_ok [] q
def F32 (x0 : Value) (x1 : Value) (w : World) (K : Value → World → Prop) : Prop :=
  rdP x0 fun p1 => rdI .u16 x1 fun n2 => alc (.cells #[(.pointer p1)] 23) w fun b3 w4 => alc (.cells #[(.int .u16 n2)] 31) w4 fun b5 w6 => ∃ k10 : Nat, F32_1 (fun w8 => ∀ _g9 : Tm, K (.tuple #[]) w8) k10 (.pointer (some (Addr.mk b3 0 none))) (.pointer (some (Addr.mk b5 0 none))) w6
theorem F32_step (x0 : Value) (x1 : Value) (w : World) (K : Value → World → Prop) : (F32 x0 x1 w K) = rsh [(0, (.one .ptr)), (1, (.one (.int .u16)))] (args0 #[x0, x1]) (fun t => vc Try.prog (orcOf [([0, 1], F32_1O)]) [] F32_code (retQ Try.prog Try.f32 K) t w) := by kernel_rfl
theorem F32_ok {x0 x1 : Value} {w : World} {K : Value → World → Prop} (h : F32 x0 x1 w K) : Calls Try.prog 32 #[x0, x1] w fun e w' => ∃ v, e = .returned v ∧ K v w' := by
  rw [F32_step] at h
  exact calls_of (c := F32_code) mixed Try.func32 rfl (nlt rfl) (vc_sound mixed (orcCons (π := [0, 1]) F32_1_ok (orcNil F32_code)) F32_code [] rfl F32_code_ok _ _ _ (rsh_out h))

/-! ropewalk/serial.Diff -/
noncomputable def F33_code : Code := Try.f33.body.getD .skip
theorem F33_code_ok : okC Try.prog Try.f33.ntmps F33_code = true := by kernel_rfl
def F33 (x0 : Value) (x1 : Value) (w : World) (K : Value → World → Prop) : Prop :=
  rdI .u32 x0 fun n1 => rdI .u32 x1 fun n2 => Calls Try.prog 55 #[(.int .u32 n1), (.int .u32 n2)] w fun e4 w3 => ∃ n5, e4 = .returned (.int .i64 n5) ∧ (K (.int .i64 n5) w3)
theorem F33_step (x0 : Value) (x1 : Value) (w : World) (K : Value → World → Prop) : (F33 x0 x1 w K) = rsh [(0, (.one (.int .u32))), (1, (.one (.int .u32)))] (args0 #[x0, x1]) (fun t => vc Try.prog (orcOf []) [] F33_code (retQ Try.prog Try.f33 K) t w) := by kernel_rfl
theorem F33_ok {x0 x1 : Value} {w : World} {K : Value → World → Prop} (h : F33 x0 x1 w K) : Calls Try.prog 33 #[x0, x1] w fun e w' => ∃ v, e = .returned v ∧ K v w' := by
  rw [F33_step] at h
  exact calls_of (c := F33_code) mixed Try.func33 rfl (nlt rfl) (vc_sound mixed (orcNil F33_code) F33_code [] rfl F33_code_ok _ _ _ (rsh_out h))

/-! (*ropewalk/reasm.Table).Fixed$1 -/
noncomputable def F35_code : Code := Try.f35.body.getD .skip
theorem F35_code_ok : okC Try.prog Try.f35.ntmps F35_code = true := by kernel_rfl
def F35 (x0 : Value) (x1 : Value) (x2 : Value) (w : World) (K : Value → World → Prop) : Prop :=
  rdI .u32 x0 fun n1 => rdI .u32 x1 fun n2 => rdA x2 fun a3 => drw w fun w4 => ∃ w5 : World, Pres w5 w4 ∧ (ldI .u32 a3 w4 fun n6 => ldI .u32 a3 w5 fun n7 => Calls Try.prog 33 #[(.int .u32 n6), (.int .u32 n1)] w4 fun e9 w8 => ∃ n10, e9 = .returned (.int .i64 n10) ∧ (Pres w5 w8 ∧ (Calls Try.prog 33 #[(.int .u32 n7), (.int .u32 n2)] w8 fun e12 w11 => ∃ n13, e12 = .returned (.int .i64 n13) ∧ (Calls Try.prog 36 #[(.int .i64 n10), (.int .i64 n13)] w11 fun e15 w14 => ∃ n16, e15 = .returned (.int .i64 n16) ∧ (K (.int .i64 n16) w14)))))
theorem F35_step (x0 : Value) (x1 : Value) (x2 : Value) (w : World) (K : Value → World → Prop) : (F35 x0 x1 x2 w K) = rsh [(0, (.one (.int .u32))), (1, (.one (.int .u32))), (2, (.one .adr))] (args0 #[x0, x1, x2]) (fun t => vc Try.prog (orcOf []) [] F35_code (retQ Try.prog Try.f35 K) t w) := by kernel_rfl
theorem F35_ok {x0 x1 x2 : Value} {w : World} {K : Value → World → Prop} (h : F35 x0 x1 x2 w K) : Calls Try.prog 35 #[x0, x1, x2] w fun e w' => ∃ v, e = .returned v ∧ K v w' := by
  rw [F35_step] at h
  exact calls_of (c := F35_code) mixed Try.func35 rfl (nlt rfl) (vc_sound mixed (orcNil F35_code) F35_code [] rfl F35_code_ok _ _ _ (rsh_out h))

/-! cmp.Compare[int] -/
noncomputable def F36_code : Code := Try.f36.body.getD .skip
theorem F36_code_ok : okC Try.prog Try.f36.ntmps F36_code = true := by kernel_rfl
def F36 (x0 : Value) (x1 : Value) (w : World) (K : Value → World → Prop) : Prop :=
  rdI .i64 x0 fun n1 => rdI .i64 x1 fun n2 => Calls Try.prog 58 #[(.int .i64 n1)] w fun e4 w3 => ∃ b5, e4 = .returned (.bool b5) ∧ (Calls Try.prog 58 #[(.int .i64 n2)] w3 fun e7 w6 => ∃ b8, e7 = .returned (.bool b8) ∧ (br b5 (br b8 (K (.int .i64 0) w6) (K (.int .i64 (-1)) w6)) (br b8 (K (.int .i64 1) w6) (br (decide ((n1 : Int) < n2)) (K (.int .i64 (-1)) w6) (br (decide ((n1 : Int) > n2)) (K (.int .i64 1) w6) (K (.int .i64 0) w6))))))
theorem F36_step (x0 : Value) (x1 : Value) (w : World) (K : Value → World → Prop) : (F36 x0 x1 w K) = rsh [(0, (.one (.int .i64))), (1, (.one (.int .i64)))] (args0 #[x0, x1]) (fun t => vc Try.prog (orcOf []) [] F36_code (retQ Try.prog Try.f36 K) t w) := by kernel_rfl
theorem F36_ok {x0 x1 : Value} {w : World} {K : Value → World → Prop} (h : F36 x0 x1 w K) : Calls Try.prog 36 #[x0, x1] w fun e w' => ∃ v, e = .returned v ∧ K v w' := by
  rw [F36_step] at h
  exact calls_of (c := F36_code) mixed Try.func36 rfl (nlt rfl) (vc_sound mixed (orcNil F36_code) F36_code [] rfl F36_code_ok _ _ _ (rsh_out h))

/-! (*ropewalk/ropewalkref20.Table).Put -/
noncomputable def F38_code : Code := Try.f38.body.getD .skip
theorem F38_code_ok : okC Try.prog Try.f38.ntmps F38_code = true := by kernel_rfl
def F38_1C (Kn : Value → Value → Value → World → Prop) : Post := fun o t w => match o with | .normal => Kn (t 0) (t 7) (t 8) w | .exit _ => (False) | .ret => False
def F38_1 (Kn : Value → Value → Value → World → Prop) (x0 : Value) (x7 : Value) (x8 : Value) (x9 : Value) (w : World) : Prop :=
  rdP x0 fun p1 => rdB x7 fun b2 => rdI .i64 x8 fun n3 => rdA x9 fun a4 => drw w fun w5 => ldI .u16 (a4.add 4) w5 fun n6 => nn p1 fun a7 => ldC (a7.add 4) w5 fun l8a l8n _ => ldI .u16 (a4.add 3) w5 fun n9 => ixS 1 l8a l8n n9 fun a10 => ldI .u16 a10 w5 fun n11 => br (n6 == n11) (drw w5 fun w12 => nn p1 fun a13 => ldC (a13.add 4) w12 fun l14a l14n _ => ldI .u16 (a4.add 3) w12 fun n15 => nn p1 fun a16 => ldC (a16.add 4) w12 fun l17a l17n _ => ldI .u16 (a4.add 3) w12 fun n18 => ixS 1 l17a l17n n18 fun a19 => ldI .u16 a19 w12 fun n20 => ixS 1 l14a l14n n15 fun a21 => stc a21 (.int .u16 (IntKind.wrap .u16 (n20 + 1))) w12 fun w22 => nn p1 fun a23 => ldC (a23.add 6) w22 fun l24a l24n _ => ixS 1 l24a l24n n3 fun a25 => ldI .u32 a25 w22 fun n26 => Calls Try.prog 66 #[(.pointer p1), (.int .u32 n26)] w22 fun e28 w27 => e28 = .returned (.tuple #[]) ∧ (Kn (.pointer p1) (.bool true) (.int .i64 n3) w27)) (Kn (.pointer p1) (.bool b2) (.int .i64 n3) w5)
def F38_1O (Q : Post) (t : Tm) (w : World) : Prop := F38_1 (fun y0 y7 y8 w => ∀ g, rsh [(0, (.one .ptr)), (7, (.one .bool)), (8, (.one (.int .i64)))] (upds g [(0, y0), (7, y7), (8, y8)]) fun t => Q .normal t w) (t 0) (t 7) (t 8) (t 9) w
theorem F38_1_step (Kn : Value → Value → Value → World → Prop) (t : Tm) (w : World) : (F38_1 Kn (t 0) (t 7) (t 8) (t 9) w) = rsh [(0, (.one .ptr)), (7, (.one .bool)), (8, (.one (.int .i64))), (9, (.one .adr))] t (fun t => vc Try.prog (orcOf []) [1, 0, 0, 1, 0, 0, 1, 1, 0, 1, 0, 0, 1, 0, 1, 1, 1, 1, 1, 1, 1, 1] (getAt F38_code [1, 0, 0, 1, 0, 0, 1, 1, 0, 1, 0, 0, 1, 0, 1, 1, 1, 1, 1, 1, 1, 1]) (F38_1C Kn) t w) := by kernel_rfl
theorem F38_1_ok : ∀ Q t w, F38_1O Q t w → W Try.prog Try.f38.ntmps (getAt F38_code [1, 0, 0, 1, 0, 0, 1, 1, 0, 1, 0, 0, 1, 0, 1, 1, 1, 1, 1, 1, 1, 1]) Q t w := by
  intro Q t w h
  unfold F38_1O at h
  rw [F38_1_step] at h
  refine (vc_sound mixed (orcNil F38_code) _ _ rfl (okC_at F38_code_ok [1, 0, 0, 1, 0, 0, 1, 1, 0, 1, 0, 0, 1, 0, 1, 1, 1, 1, 1, 1, 1, 1]) _ _ _ (rsh_out h)).mono ?_
  intro o t w q
  cases o with
  | normal => exact out_ok [0, 7, 8] q
  | exit i => exact q.elim
  | ret => exact q.elim
def F38_2C (Kn : Value → Value → Value → World → Prop) : Post := fun o t w => match o with | .normal => Kn (t 0) (t 7) (t 8) w | .exit _ => (False) | .ret => False
def F38_2 (Kn : Value → Value → Value → World → Prop) (x0 : Value) (x7 : Value) (x8 : Value) (w : World) : Prop :=
  rdP x0 fun p1 => rdB x7 fun b2 => rdI .i64 x8 fun n3 => drw w fun w4 => ∃ w5 : World, Pres w5 w4 ∧ (nn p1 fun a6 => ldC (a6.add 2) w5 fun l7a l7n _ => nn p1 fun a8 => ldC (a8.add 6) w5 fun l9a l9n _ => ixS 1 l9a l9n n3 fun a10 => ldI .u32 a10 w5 fun n11 => ((Calls Try.prog 60 #[(.pointer p1), (.int .u32 n11)] w4 fun e13 w12 => ∃ n14, e13 = .returned (.int .i64 n14) ∧ (Pres w5 w12 ∧ (ixS 15 l7a l7n n14 fun a15 => ldR35 a15 w5 fun s16 => alc (.cells ((R35.mk 0 0 0 0 0 0 0 0 0 0 none 0 0 none 0 0 none 0 0 none 0 0 none 0 0)).c 36) w12 fun b17 w18 => Pres w5 w18 ∧ (stcL (Addr.mk b17 0 none) 0 s16.l w18 fun w19 => F38_1 (fun y0_19 y7_19 y8_19 w21 => ∀ _g22 : Tm, rdP y0_19 fun p23 => rdB y7_19 fun b24 => rdI .i64 y8_19 fun n25 => Kn (.pointer p23) (.bool b24) (.int .i64 (IntKind.wrap .i64 (n25 + 1))) w21) (.pointer p1) (.bool b2) (.int .i64 n3) (.pointer (some (Addr.mk b17 0 none))) w19)))) ∧ (alc (.cells ((R35.mk 0 0 0 0 0 0 0 0 0 0 none 0 0 none 0 0 none 0 0 none 0 0 none 0 0)).c 36) w4 fun b26 w27 => Pres w5 w27 ∧ (Calls Try.prog 60 #[(.pointer p1), (.int .u32 n11)] w27 fun e29 w28 => ∃ n30, e29 = .returned (.int .i64 n30) ∧ (Pres w5 w28 ∧ (ixS 15 l7a l7n n30 fun a31 => ldR35 a31 w5 fun s32 => stcL (Addr.mk b26 0 none) 0 s32.l w28 fun w33 => F38_1 (fun y0_33 y7_33 y8_33 w35 => ∀ _g36 : Tm, rdP y0_33 fun p37 => rdB y7_33 fun b38 => rdI .i64 y8_33 fun n39 => Kn (.pointer p37) (.bool b38) (.int .i64 (IntKind.wrap .i64 (n39 + 1))) w35) (.pointer p1) (.bool b2) (.int .i64 n3) (.pointer (some (Addr.mk b26 0 none))) w33))))))
def F38_2O (Q : Post) (t : Tm) (w : World) : Prop := F38_2 (fun y0 y7 y8 w => ∀ g, rsh [(0, (.one .ptr)), (7, (.one .bool)), (8, (.one (.int .i64)))] (upds g [(0, y0), (7, y7), (8, y8)]) fun t => Q .normal t w) (t 0) (t 7) (t 8) w
theorem F38_2_step (Kn : Value → Value → Value → World → Prop) (t : Tm) (w : World) : (F38_2 Kn (t 0) (t 7) (t 8) w) = rsh [(0, (.one .ptr)), (7, (.one .bool)), (8, (.one (.int .i64)))] t (fun t => vc Try.prog (orcOf [([1, 0, 0, 1, 0, 0, 1, 1, 0, 1, 0, 0, 1, 0, 1, 1, 1, 1, 1, 1, 1, 1], F38_1O)]) [1, 0, 0, 1, 1, 0, 1, 0, 0, 1, 0, 1, 1, 1, 1, 1, 1, 1, 1] (getAt F38_code [1, 0, 0, 1, 1, 0, 1, 0, 0, 1, 0, 1, 1, 1, 1, 1, 1, 1, 1]) (F38_2C Kn) t w) := by kernel_rfl
theorem F38_2_ok : ∀ Q t w, F38_2O Q t w → W Try.prog Try.f38.ntmps (getAt F38_code [1, 0, 0, 1, 1, 0, 1, 0, 0, 1, 0, 1, 1, 1, 1, 1, 1, 1, 1]) Q t w := by
  intro Q t w h
  unfold F38_2O at h
  rw [F38_2_step] at h
  refine (vc_sound mixed (orcCons (π := [1, 0, 0, 1, 0, 0, 1, 1, 0, 1, 0, 0, 1, 0, 1, 1, 1, 1, 1, 1, 1, 1]) F38_1_ok (orcNil F38_code)) _ _ rfl (okC_at F38_code_ok [1, 0, 0, 1, 1, 0, 1, 0, 0, 1, 0, 1, 1, 1, 1, 1, 1, 1, 1]) _ _ _ (rsh_out h)).mono ?_
  intro o t w q
  cases o with
  | normal => exact out_ok [0, 7, 8] q
  | exit i => exact q.elim
  | ret => exact q.elim
def F38_3C (K3 : Value → Value → World → Prop) : Post := fun o t w => match o with | .normal => False | .exit i => (match Nat.beq i 3 with | true => K3 (t 0) (t 7) w | false => False) | .ret => False
def F38_3B (R : Value → Value → Value → World → Prop) (K3 : Value → Value → World → Prop) (x0 : Value) (x7 : Value) (x8 : Value) (w : World) : Prop :=
  rdP x0 fun p1 => rdB x7 fun b2 => rdI .i64 x8 fun n3 => nn p1 fun a4 => ldC (a4.add 6) w fun _ l5n _ => br (decide ((n3 : Int) < (l5n : Int))) (br (!b2) (F38_2 (fun y0_5 y7_5 y8_5 w7 => ∀ _g8 : Tm, rdP y0_5 fun p9 => rdB y7_5 fun b10 => rdI .i64 y8_5 fun n11 => R (.pointer p9) (.bool b10) (.int .i64 n11) w7) (.pointer p1) (.bool b2) (.int .i64 n3) w) (K3 (.pointer p1) (.bool b2) w)) (K3 (.pointer p1) (.bool b2) w)
def F38_3 (K3 : Value → Value → World → Prop) : Nat → Value → Value → Value → World → Prop
  | 0 => fun _ _ _ _ => False
  | n + 1 => F38_3B (F38_3 K3 n) K3
def F38_3O (Q : Post) (t : Tm) (w : World) : Prop := ∃ n, F38_3 (fun y0 y7 w => ∀ g, rsh [(0, (.one .ptr)), (7, (.one .bool))] (upds g [(0, y0), (7, y7)]) fun t => Q (.exit 3) t w) n (t 0) (t 7) (t 8) w
theorem F38_3_step (K3 : Value → Value → World → Prop) (n : Nat) (t : Tm) (w : World) : (F38_3 K3 (n + 1) (t 0) (t 7) (t 8) w) = rsh [(0, (.one .ptr)), (7, (.one .bool)), (8, (.one (.int .i64)))] t (fun t => vc Try.prog (orcOf [([1, 0, 0, 1, 0, 0, 1, 1, 0, 1, 0, 0, 1, 0, 1, 1, 1, 1, 1, 1, 1, 1], F38_1O), ([1, 0, 0, 1, 1, 0, 1, 0, 0, 1, 0, 1, 1, 1, 1, 1, 1, 1, 1], F38_2O)]) [0, 0, 1, 1, 0, 1, 0, 0, 1, 0, 1, 1, 1, 1, 1, 1, 1, 1] (getAt F38_code [0, 0, 1, 1, 0, 1, 0, 0, 1, 0, 1, 1, 1, 1, 1, 1, 1, 1]) (fun o t w => match o with | .normal => F38_3 K3 n (t 0) (t 7) (t 8) w | .exit i => F38_3C K3 (.exit i) t w | .ret => F38_3C K3 .ret t w) t w) := by kernel_rfl
theorem F38_3_ok : ∀ Q t w, F38_3O Q t w → W Try.prog Try.f38.ntmps (getAt F38_code [0, 1, 1, 0, 1, 0, 0, 1, 0, 1, 1, 1, 1, 1, 1, 1, 1]) Q t w := by
  intro Q t w ⟨n, h⟩
  refine (W_loop (P := Try.prog) (b := getAt F38_code [0, 0, 1, 1, 0, 1, 0, 0, 1, 0, 1, 1, 1, 1, 1, 1, 1, 1]) (Q := F38_3C (fun y0 y7 w => ∀ g, rsh [(0, (.one .ptr)), (7, (.one .bool))] (upds g [(0, y0), (7, y7)]) fun t => Q (.exit 3) t w)) (G := fun n t w => F38_3 (fun y0 y7 w => ∀ g, rsh [(0, (.one .ptr)), (7, (.one .bool))] (upds g [(0, y0), (7, y7)]) fun t => Q (.exit 3) t w) n (t 0) (t 7) (t 8) w) (fun _ _ h => h) (fun n t w h => ?_) n t w h).mono ?_
  · rw [F38_3_step] at h
    exact vc_sound mixed (orcCons (π := [1, 0, 0, 1, 0, 0, 1, 1, 0, 1, 0, 0, 1, 0, 1, 1, 1, 1, 1, 1, 1, 1]) F38_1_ok (orcCons (π := [1, 0, 0, 1, 1, 0, 1, 0, 0, 1, 0, 1, 1, 1, 1, 1, 1, 1, 1]) F38_2_ok (orcNil F38_code))) _ _ rfl (okC_at F38_code_ok [0, 0, 1, 1, 0, 1, 0, 0, 1, 0, 1, 1, 1, 1, 1, 1, 1, 1]) _ _ _ (rsh_out h)
  · intro o t w q
    cases o with
    | normal => exact q.elim
    | exit i =>
      unfold F38_3C at q
      simp only at q
      split at q
      · rename_i hi
        rw [nbeq] at hi
        subst hi
        exact out_ok [0, 7] q
      · exact q.elim
    | ret => exact q.elim
def F38_4C (K1 : World → Prop) : Post := fun o _ w => match o with | .normal => False | .exit i => (match Nat.beq i 1 with | true => K1  w | false => False) | .ret => False
def F38_4B (R : Value → Value → World → Prop) (K1 : World → Prop) (x0 : Value) (x7 : Value) (w : World) : Prop :=
  rdP x0 fun p1 => rdB x7 fun b2 => br b2 (∃ k8 : Nat, F38_3 (fun y0_2 y7_2 w4 => ∀ _g5 : Tm, rdP y0_2 fun p6 => rdB y7_2 fun b7 => R (.pointer p6) (.bool b7) w4) k8 (.pointer p1) (.bool false) (.int .i64 0) w) (K1 w)
def F38_4 (K1 : World → Prop) : Nat → Value → Value → World → Prop
  | 0 => fun _ _ _ => False
  | n + 1 => F38_4B (F38_4 K1 n) K1
def F38_4O (Q : Post) (t : Tm) (w : World) : Prop := ∃ n, F38_4 (fun w => ∀ g, rsh [] (upds g []) fun t => Q (.exit 1) t w) n (t 0) (t 7) w
theorem F38_4_step (K1 : World → Prop) (n : Nat) (t : Tm) (w : World) : (F38_4 K1 (n + 1) (t 0) (t 7) w) = rsh [(0, (.one .ptr)), (7, (.one .bool))] t (fun t => vc Try.prog (orcOf [([1, 0, 0, 1, 0, 0, 1, 1, 0, 1, 0, 0, 1, 0, 1, 1, 1, 1, 1, 1, 1, 1], F38_1O), ([1, 0, 0, 1, 1, 0, 1, 0, 0, 1, 0, 1, 1, 1, 1, 1, 1, 1, 1], F38_2O), ([0, 1, 1, 0, 1, 0, 0, 1, 0, 1, 1, 1, 1, 1, 1, 1, 1], F38_3O)]) [0, 0, 1, 0, 1, 1, 1, 1, 1, 1, 1, 1] (getAt F38_code [0, 0, 1, 0, 1, 1, 1, 1, 1, 1, 1, 1]) (fun o t w => match o with | .normal => F38_4 K1 n (t 0) (t 7) w | .exit i => F38_4C K1 (.exit i) t w | .ret => F38_4C K1 .ret t w) t w) := by kernel_rfl
theorem F38_4_ok : ∀ Q t w, F38_4O Q t w → W Try.prog Try.f38.ntmps (getAt F38_code [0, 1, 0, 1, 1, 1, 1, 1, 1, 1, 1]) Q t w := by
  intro Q t w ⟨n, h⟩
  refine (W_loop (P := Try.prog) (b := getAt F38_code [0, 0, 1, 0, 1, 1, 1, 1, 1, 1, 1, 1]) (Q := F38_4C (fun w => ∀ g, rsh [] (upds g []) fun t => Q (.exit 1) t w)) (G := fun n t w => F38_4 (fun w => ∀ g, rsh [] (upds g []) fun t => Q (.exit 1) t w) n (t 0) (t 7) w) (fun _ _ h => h) (fun n t w h => ?_) n t w h).mono ?_
  · rw [F38_4_step] at h
    exact vc_sound mixed (orcCons (π := [1, 0, 0, 1, 0, 0, 1, 1, 0, 1, 0, 0, 1, 0, 1, 1, 1, 1, 1, 1, 1, 1]) F38_1_ok (orcCons (π := [1, 0, 0, 1, 1, 0, 1, 0, 0, 1, 0, 1, 1, 1, 1, 1, 1, 1, 1]) F38_2_ok (orcCons (π := [0, 1, 1, 0, 1, 0, 0, 1, 0, 1, 1, 1, 1, 1, 1, 1, 1]) F38_3_ok (orcNil F38_code)))) _ _ rfl (okC_at F38_code_ok [0, 0, 1, 0, 1, 1, 1, 1, 1, 1, 1, 1]) _ _ _ (rsh_out h)
  · intro o t w q
    cases o with
    | normal => exact q.elim
    | exit i =>
      unfold F38_4C at q
      simp only at q
      split at q
      · rename_i hi
        rw [nbeq] at hi
        subst hi
        exact out_ok [] q
      · exact q.elim
    | ret => exact q.elim
def F38_5C (Kn : Value → Value → World → Prop) (Kr : Value → World → Prop) : Post := fun o t w => match o with | .normal => Kn (t 0) (t 3) w | .exit _ => (False) | .ret => Kr (t 4) w
def F38_5 (Kn : Value → Value → World → Prop) (Kr : Value → World → Prop) (x0 : Value) (x3 : Value) (x35 : Value) (w : World) : Prop :=
  rdP x0 fun p1 => rdA x3 fun a2 => rdB x35 fun b3 => br b3 (Kr (.int .i64 200) w) (drw w fun w4 => ∃ w5 : World, Pres w5 w4 ∧ (ldC (a2.add 13) w5 fun _ l6n _ => nn p1 fun a7 => ldI .i64 (a7.add 1) w5 fun n8 => Calls Try.prog 43 #[(.pointer p1)] w4 fun e10 w9 => ∃ n11, e10 = .returned (.int .i64 n11) ∧ (Pres w5 w9 ∧ (br (decide (((IntKind.wrap .i64 (n11 + (l6n : Int))) : Int) > n8)) (Kr (.int .i64 161) w9) (drw w9 fun w12 => nn p1 fun a13 => ldC (a13.add 2) w12 fun _ l14n _ => nn p1 fun a15 => ldC (a15.add 5) w12 fun _ l16n _ => br (decide (((IntKind.wrap .i64 ((l14n : Int) + (l16n : Int))) : Int) ≥ 32768)) (Kr (.int .i64 3) w12) (Kn (.pointer p1) (.pointer (some a2)) w12))))))
def F38_5O (Q : Post) (t : Tm) (w : World) : Prop := F38_5 (fun y0 y3 w => ∀ g, rsh [(0, (.one .ptr)), (3, (.one .adr))] (upds g [(0, y0), (3, y3)]) fun t => Q .normal t w) (fun y4 w => ∀ g, rsh [(4, (.one (.int .i64)))] (upds g [(4, y4)]) fun t => Q .ret t w) (t 0) (t 3) (t 35) w
theorem F38_5_step (Kn : Value → Value → World → Prop) (Kr : Value → World → Prop) (t : Tm) (w : World) : (F38_5 Kn Kr (t 0) (t 3) (t 35) w) = rsh [(0, (.one .ptr)), (3, (.one .adr)), (35, (.one .bool))] t (fun t => vc Try.prog (orcOf []) [1, 1, 1, 1, 1, 0, 0, 1] (getAt F38_code [1, 1, 1, 1, 1, 0, 0, 1]) (F38_5C Kn Kr) t w) := by kernel_rfl
theorem F38_5_ok : ∀ Q t w, F38_5O Q t w → W Try.prog Try.f38.ntmps (getAt F38_code [1, 1, 1, 1, 1, 0, 0, 1]) Q t w := by
  intro Q t w h
  unfold F38_5O at h
  rw [F38_5_step] at h
  refine (vc_sound mixed (orcNil F38_code) _ _ rfl (okC_at F38_code_ok [1, 1, 1, 1, 1, 0, 0, 1]) _ _ _ (rsh_out h)).mono ?_
  intro o t w q
  cases o with
  | normal => exact out_ok [0, 3] q
  | exit i => exact q.elim
  | ret => exact out_ok [4] q
def F38_6C (Kr : Value → World → Prop) : Post := fun o t w => match o with | .normal => False | .exit _ => (False) | .ret => Kr (t 4) w
def F38_6 (Kr : Value → World → Prop) (x0 : Value) (x3 : Value) (x5 : Value) (w : World) : Prop :=
  rdP x0 fun p1 => rdA x3 fun a2 => rdI .u32 x5 fun n3 => ldR35 a2 w fun s4 => Calls Try.prog 65 #[s4.v, (.int .u8 4)] w fun e6 w5 => ∃ b7, e6 = .returned (.bool b7) ∧ (br b7 (Calls Try.prog 66 #[(.pointer p1), (.int .u32 n3)] w5 fun e9 w8 => e9 = .returned (.tuple #[]) ∧ (Kr (.int .i64 0) w8)) (nn p1 fun a10 => ldC (a10.add 6) w5 fun l11a l11n l11c => alc (.cells #[(.int .u32 n3)] 30) w5 fun b12 w13 => ∃ l14a l14n l14c w15, Sem.run Try.prog (Builtin.append_ #[33, 33] 33 #[(.slice l11a l11n l11c), (.slice (some (Addr.mk b12 0 none)) 1 1)]) w13 = .ok (.slice l14a l14n l14c) w15 ∧ (nn p1 fun a16 => stc (a16.add 6) (.slice l14a l14n l14c) w15 fun w17 => ∃ k21 : Nat, F38_4 (fun w19 => ∀ _g20 : Tm, Kr (.int .i64 0) w19) k21 (.pointer p1) (.bool true) w17)))
def F38_6O (Q : Post) (t : Tm) (w : World) : Prop := F38_6 (fun y4 w => ∀ g, rsh [(4, (.one (.int .i64)))] (upds g [(4, y4)]) fun t => Q .ret t w) (t 0) (t 3) (t 5) w
theorem F38_6_step (Kr : Value → World → Prop) (t : Tm) (w : World) : (F38_6 Kr (t 0) (t 3) (t 5) w) = rsh [(0, (.one .ptr)), (3, (.one .adr)), (5, (.one (.int .u32)))] t (fun t => vc Try.prog (orcOf [([1, 0, 0, 1, 0, 0, 1, 1, 0, 1, 0, 0, 1, 0, 1, 1, 1, 1, 1, 1, 1, 1], F38_1O), ([1, 0, 0, 1, 1, 0, 1, 0, 0, 1, 0, 1, 1, 1, 1, 1, 1, 1, 1], F38_2O), ([0, 1, 1, 0, 1, 0, 0, 1, 0, 1, 1, 1, 1, 1, 1, 1, 1], F38_3O), ([0, 1, 0, 1, 1, 1, 1, 1, 1, 1, 1], F38_4O)]) [1, 1, 1, 1, 1, 1] (getAt F38_code [1, 1, 1, 1, 1, 1]) (F38_6C Kr) t w) := by kernel_rfl
theorem F38_6_ok : ∀ Q t w, F38_6O Q t w → W Try.prog Try.f38.ntmps (getAt F38_code [1, 1, 1, 1, 1, 1]) Q t w := by
  intro Q t w h
  unfold F38_6O at h
  rw [F38_6_step] at h
  refine (vc_sound mixed (orcCons (π := [1, 0, 0, 1, 0, 0, 1, 1, 0, 1, 0, 0, 1, 0, 1, 1, 1, 1, 1, 1, 1, 1]) F38_1_ok (orcCons (π := [1, 0, 0, 1, 1, 0, 1, 0, 0, 1, 0, 1, 1, 1, 1, 1, 1, 1, 1]) F38_2_ok (orcCons (π := [0, 1, 1, 0, 1, 0, 0, 1, 0, 1, 1, 1, 1, 1, 1, 1, 1]) F38_3_ok (orcCons (π := [0, 1, 0, 1, 1, 1, 1, 1, 1, 1, 1]) F38_4_ok (orcNil F38_code))))) _ _ rfl (okC_at F38_code_ok [1, 1, 1, 1, 1, 1]) _ _ _ (rsh_out h)).mono ?_
  intro o t w q
  cases o with
  | normal => exact q.elim
  | exit i => exact q.elim
  | ret => exact out_ok [4] q
def F38_7C (Kn : Value → Value → World → Prop) (Kr : Value → World → Prop) : Post := fun o t w => match o with | .normal => Kn (t 0) (t 3) w | .exit _ => (False) | .ret => Kr (t 4) w
def F38_7 (Kn : Value → Value → World → Prop) (Kr : Value → World → Prop) (x0 : Value) (x3 : Value) (x10 : Value) (w : World) : Prop :=
  rdP x0 fun p1 => rdA x3 fun a2 => rdB x10 fun b3 => br b3 (Kr (.int .i64 201) w) (drw w fun w4 => ldI .u16 (a2.add 3) w4 fun n5 => nn p1 fun a6 => ldI .i64 (a6.add 0) w4 fun n7 => br (decide (((IntKind.wrap .i64 (n5)) : Int) ≥ n7)) (Kr (.int .i64 160) w4) (drw w4 fun w8 => ldI .u32 (a2.add 2) w8 fun n9 => Calls Try.prog 60 #[(.pointer p1), (.int .u32 n9)] w8 fun e11 w10 => ∃ n12, e11 = .returned (.int .i64 n12) ∧ (br (decide ((n12 : Int) ≥ 0)) (F38_5 (fun y0_12 y3_12 w14 => ∀ _g15 : Tm, rdP y0_12 fun p16 => rdA y3_12 fun a17 => Kn (.pointer p16) (.pointer (some a17)) w14) (fun y4_17 w19 => ∀ _g20 : Tm, rdI .i64 y4_17 fun n21 => Kr (.int .i64 n21) w19) (.pointer p1) (.pointer (some a2)) (.bool true) w10) (nn p1 fun a22 => ldC (a22.add 5) w10 fun l23a l23n l23c => ldI .u32 (a2.add 2) w10 fun n24 => Calls Try.prog 61 #[(.slice l23a l23n l23c), (.int .u32 n24)] w10 fun e26 w25 => ∃ b27, e26 = .returned (.bool b27) ∧ (F38_5 (fun y0_27 y3_27 w29 => ∀ _g30 : Tm, rdP y0_27 fun p31 => rdA y3_27 fun a32 => Kn (.pointer p31) (.pointer (some a32)) w29) (fun y4_32 w34 => ∀ _g35 : Tm, rdI .i64 y4_32 fun n36 => Kr (.int .i64 n36) w34) (.pointer p1) (.pointer (some a2)) (.bool b27) w25)))))
def F38_7O (Q : Post) (t : Tm) (w : World) : Prop := F38_7 (fun y0 y3 w => ∀ g, rsh [(0, (.one .ptr)), (3, (.one .adr))] (upds g [(0, y0), (3, y3)]) fun t => Q .normal t w) (fun y4 w => ∀ g, rsh [(4, (.one (.int .i64)))] (upds g [(4, y4)]) fun t => Q .ret t w) (t 0) (t 3) (t 10) w
theorem F38_7_step (Kn : Value → Value → World → Prop) (Kr : Value → World → Prop) (t : Tm) (w : World) : (F38_7 Kn Kr (t 0) (t 3) (t 10) w) = rsh [(0, (.one .ptr)), (3, (.one .adr)), (10, (.one .bool))] t (fun t => vc Try.prog (orcOf [([1, 1, 1, 1, 1, 0, 0, 1], F38_5O)]) [1, 0, 0, 1] (getAt F38_code [1, 0, 0, 1]) (F38_7C Kn Kr) t w) := by kernel_rfl
theorem F38_7_ok : ∀ Q t w, F38_7O Q t w → W Try.prog Try.f38.ntmps (getAt F38_code [1, 0, 0, 1]) Q t w := by
  intro Q t w h
  unfold F38_7O at h
  rw [F38_7_step] at h
  refine (vc_sound mixed (orcCons (π := [1, 1, 1, 1, 1, 0, 0, 1]) F38_5_ok (orcNil F38_code)) _ _ rfl (okC_at F38_code_ok [1, 0, 0, 1]) _ _ _ (rsh_out h)).mono ?_
  intro o t w q
  cases o with
  | normal => exact out_ok [0, 3] q
  | exit i => exact q.elim
  | ret => exact out_ok [4] q
def F38 (x0 : Value) (x1 : Value) (w : World) (K : Value → World → Prop) : Prop :=
  rdP x0 fun p1 => exR35 fun s2 => x1 = s2.v ∧ (alc (.cells s2.c 36) w fun b3 w4 => ldI .u8 ((Addr.mk b3 0 none).add 0) w4 fun n5 => br (n5 != 0) (F38_7 (fun y0_5 y3_5 w7 => ∀ _g8 : Tm, rdP y0_5 fun p9 => rdA y3_5 fun a10 => ∃ l11a l11n l11c, ∃ w12, Sem.run Try.prog (Instr.buildSlice 22 0 #[]) w7 = .ok (.slice l11a l11n l11c) w12 ∧ (ldC (a10.add 13) w12 fun l13a l13n l13c => ∃ l14a l14n l14c w15, Sem.run Try.prog (Builtin.append_ #[22, 22] 22 #[(.slice l11a l11n l11c), (.slice l13a l13n l13c)]) w12 = .ok (.slice l14a l14n l14c) w15 ∧ (stc (a10.add 13) (.slice l14a l14n l14c) w15 fun w16 => drw w16 fun w17 => nn p9 fun a18 => ldC (a18.add 2) w17 fun l19a l19n l19c => ldR35 a10 w17 fun s20 => alc (.cells s20.c 36) w17 fun b21 w22 => Pres w17 w22 ∧ (∃ l23a l23n l23c w24, Sem.run Try.prog (Builtin.append_ #[45, 45] 45 #[(.slice l19a l19n l19c), (.slice (some (Addr.mk b21 0 none)) 1 1)]) w22 = .ok (.slice l23a l23n l23c) w24 ∧ (nn p9 fun a25 => stc (a25.add 2) (.slice l23a l23n l23c) w24 fun w26 => ldI .u32 (a10.add 2) w26 fun n27 => Calls Try.prog 62 #[(.pointer p9), (.int .u32 n27)] w26 fun e29 w28 => ∃ n30, ∃ b31, e29 = .returned (.tuple #[(.int .u32 n30), (.bool b31)]) ∧ (drw w28 fun w32 => ∃ w33 : World, Pres w33 w32 ∧ (br (!b31) (K (.int .i64 0) w32) (ldI .u32 (a10.add 2) w33 fun n34 => Calls Try.prog 64 #[(.pointer p9), (.int .u32 n30)] w32 fun e36 w35 => ∃ l37a l37n l37c, e36 = .returned (.slice l37a l37n l37c) ∧ (Pres w33 w35 ∧ (Calls Try.prog 63 #[(.slice l37a l37n l37c), (.int .u32 n34)] w35 fun e39 w38 => ∃ b40, e39 = .returned (.bool b40) ∧ (br (!b40) (K (.int .i64 0) w38) (F38_6 (fun y4_40 w42 => ∀ _g43 : Tm, rdI .i64 y4_40 fun n44 => K (.int .i64 n44) w42) (.pointer p9) (.pointer (some a10)) (.int .u32 n30) w38)))))))))))) (fun y4_44 w46 => ∀ _g47 : Tm, rdI .i64 y4_44 fun n48 => K (.int .i64 n48) w46) (.pointer p1) (.pointer (some (Addr.mk b3 0 none))) (.bool true) w4) (ldC ((Addr.mk b3 0 none).add 13) w4 fun _ l49n _ => br ((l49n : Int) == 0) (F38_7 (fun y0_49 y3_49 w51 => ∀ _g52 : Tm, rdP y0_49 fun p53 => rdA y3_49 fun a54 => ∃ l55a l55n l55c, ∃ w56, Sem.run Try.prog (Instr.buildSlice 22 0 #[]) w51 = .ok (.slice l55a l55n l55c) w56 ∧ (ldC (a54.add 13) w56 fun l57a l57n l57c => ∃ l58a l58n l58c w59, Sem.run Try.prog (Builtin.append_ #[22, 22] 22 #[(.slice l55a l55n l55c), (.slice l57a l57n l57c)]) w56 = .ok (.slice l58a l58n l58c) w59 ∧ (stc (a54.add 13) (.slice l58a l58n l58c) w59 fun w60 => drw w60 fun w61 => nn p53 fun a62 => ldC (a62.add 2) w61 fun l63a l63n l63c => ldR35 a54 w61 fun s64 => alc (.cells s64.c 36) w61 fun b65 w66 => Pres w61 w66 ∧ (∃ l67a l67n l67c w68, Sem.run Try.prog (Builtin.append_ #[45, 45] 45 #[(.slice l63a l63n l63c), (.slice (some (Addr.mk b65 0 none)) 1 1)]) w66 = .ok (.slice l67a l67n l67c) w68 ∧ (nn p53 fun a69 => stc (a69.add 2) (.slice l67a l67n l67c) w68 fun w70 => ldI .u32 (a54.add 2) w70 fun n71 => Calls Try.prog 62 #[(.pointer p53), (.int .u32 n71)] w70 fun e73 w72 => ∃ n74, ∃ b75, e73 = .returned (.tuple #[(.int .u32 n74), (.bool b75)]) ∧ (drw w72 fun w76 => ∃ w77 : World, Pres w77 w76 ∧ (br (!b75) (K (.int .i64 0) w76) (ldI .u32 (a54.add 2) w77 fun n78 => Calls Try.prog 64 #[(.pointer p53), (.int .u32 n74)] w76 fun e80 w79 => ∃ l81a l81n l81c, e80 = .returned (.slice l81a l81n l81c) ∧ (Pres w77 w79 ∧ (Calls Try.prog 63 #[(.slice l81a l81n l81c), (.int .u32 n78)] w79 fun e83 w82 => ∃ b84, e83 = .returned (.bool b84) ∧ (br (!b84) (K (.int .i64 0) w82) (F38_6 (fun y4_84 w86 => ∀ _g87 : Tm, rdI .i64 y4_84 fun n88 => K (.int .i64 n88) w86) (.pointer p53) (.pointer (some a54)) (.int .u32 n74) w82)))))))))))) (fun y4_88 w90 => ∀ _g91 : Tm, rdI .i64 y4_88 fun n92 => K (.int .i64 n92) w90) (.pointer p1) (.pointer (some (Addr.mk b3 0 none))) (.bool true) w4) (ldC ((Addr.mk b3 0 none).add 13) w4 fun _ l93n _ => F38_7 (fun y0_93 y3_93 w95 => ∀ _g96 : Tm, rdP y0_93 fun p97 => rdA y3_93 fun a98 => ∃ l99a l99n l99c, ∃ w100, Sem.run Try.prog (Instr.buildSlice 22 0 #[]) w95 = .ok (.slice l99a l99n l99c) w100 ∧ (ldC (a98.add 13) w100 fun l101a l101n l101c => ∃ l102a l102n l102c w103, Sem.run Try.prog (Builtin.append_ #[22, 22] 22 #[(.slice l99a l99n l99c), (.slice l101a l101n l101c)]) w100 = .ok (.slice l102a l102n l102c) w103 ∧ (stc (a98.add 13) (.slice l102a l102n l102c) w103 fun w104 => drw w104 fun w105 => nn p97 fun a106 => ldC (a106.add 2) w105 fun l107a l107n l107c => ldR35 a98 w105 fun s108 => alc (.cells s108.c 36) w105 fun b109 w110 => Pres w105 w110 ∧ (∃ l111a l111n l111c w112, Sem.run Try.prog (Builtin.append_ #[45, 45] 45 #[(.slice l107a l107n l107c), (.slice (some (Addr.mk b109 0 none)) 1 1)]) w110 = .ok (.slice l111a l111n l111c) w112 ∧ (nn p97 fun a113 => stc (a113.add 2) (.slice l111a l111n l111c) w112 fun w114 => ldI .u32 (a98.add 2) w114 fun n115 => Calls Try.prog 62 #[(.pointer p97), (.int .u32 n115)] w114 fun e117 w116 => ∃ n118, ∃ b119, e117 = .returned (.tuple #[(.int .u32 n118), (.bool b119)]) ∧ (drw w116 fun w120 => ∃ w121 : World, Pres w121 w120 ∧ (br (!b119) (K (.int .i64 0) w120) (ldI .u32 (a98.add 2) w121 fun n122 => Calls Try.prog 64 #[(.pointer p97), (.int .u32 n118)] w120 fun e124 w123 => ∃ l125a l125n l125c, e124 = .returned (.slice l125a l125n l125c) ∧ (Pres w121 w123 ∧ (Calls Try.prog 63 #[(.slice l125a l125n l125c), (.int .u32 n122)] w123 fun e127 w126 => ∃ b128, e127 = .returned (.bool b128) ∧ (br (!b128) (K (.int .i64 0) w126) (F38_6 (fun y4_128 w130 => ∀ _g131 : Tm, rdI .i64 y4_128 fun n132 => K (.int .i64 n132) w130) (.pointer p97) (.pointer (some a98)) (.int .u32 n118) w126)))))))))))) (fun y4_132 w134 => ∀ _g135 : Tm, rdI .i64 y4_132 fun n136 => K (.int .i64 n136) w134) (.pointer p1) (.pointer (some (Addr.mk b3 0 none))) (.bool (decide (((l93n : Int) : Int) > 65531))) w4)))
theorem F38_step (x0 : Value) (x1 : Value) (w : World) (K : Value → World → Prop) : (F38 x0 x1 w K) = rsh [(0, (.one .ptr)), (1, (.agg [(.int .u8), (.int .u8), (.int .u32), (.int .u16), (.int .u16), (.int .u32), (.int .u32), (.int .u32), (.int .u16), (.int .u16), .slc, .slc, .slc, .slc, .slc]))] (args0 #[x0, x1]) (fun t => vc Try.prog (orcOf [([1, 0, 0, 1, 0, 0, 1, 1, 0, 1, 0, 0, 1, 0, 1, 1, 1, 1, 1, 1, 1, 1], F38_1O), ([1, 0, 0, 1, 1, 0, 1, 0, 0, 1, 0, 1, 1, 1, 1, 1, 1, 1, 1], F38_2O), ([0, 1, 1, 0, 1, 0, 0, 1, 0, 1, 1, 1, 1, 1, 1, 1, 1], F38_3O), ([0, 1, 0, 1, 1, 1, 1, 1, 1, 1, 1], F38_4O), ([1, 1, 1, 1, 1, 0, 0, 1], F38_5O), ([1, 1, 1, 1, 1, 1], F38_6O), ([1, 0, 0, 1], F38_7O)]) [] F38_code (retQ Try.prog Try.f38 K) t w) := by kernel_rfl
theorem F38_ok {x0 x1 : Value} {w : World} {K : Value → World → Prop} (h : F38 x0 x1 w K) : Calls Try.prog 38 #[x0, x1] w fun e w' => ∃ v, e = .returned v ∧ K v w' := by
  rw [F38_step] at h
  exact calls_of (c := F38_code) mixed Try.func38 rfl (nlt rfl) (vc_sound mixed (orcCons (π := [1, 0, 0, 1, 0, 0, 1, 1, 0, 1, 0, 0, 1, 0, 1, 1, 1, 1, 1, 1, 1, 1]) F38_1_ok (orcCons (π := [1, 0, 0, 1, 1, 0, 1, 0, 0, 1, 0, 1, 1, 1, 1, 1, 1, 1, 1]) F38_2_ok (orcCons (π := [0, 1, 1, 0, 1, 0, 0, 1, 0, 1, 1, 1, 1, 1, 1, 1, 1]) F38_3_ok (orcCons (π := [0, 1, 0, 1, 1, 1, 1, 1, 1, 1, 1]) F38_4_ok (orcCons (π := [1, 1, 1, 1, 1, 0, 0, 1]) F38_5_ok (orcCons (π := [1, 1, 1, 1, 1, 1]) F38_6_ok (orcCons (π := [1, 0, 0, 1]) F38_7_ok (orcNil F38_code)))))))) F38_code [] rfl F38_code_ok _ _ _ (rsh_out h))

/-! (*ropewalk/ropewalkref20.Table).Take -/
noncomputable def F39_code : Code := Try.f39.body.getD .skip
theorem F39_code_ok : okC Try.prog Try.f39.ntmps F39_code = true := by kernel_rfl
def F39 (x0 : Value) (w : World) (K : Value → World → Prop) : Prop :=
  rdP x0 fun p1 => alc (.cells ((R38.mk 0 0 0 false none 0 0)).c 39) w fun b2 w3 => nn p1 fun a4 => ldC (a4.add 3) w3 fun _ l5n _ => br ((l5n : Int) == 0) (stcL (Addr.mk b2 0 none) 0 (R38.mk 0 0 0 false none 0 0).l w3 fun w6 => ldR38 (Addr.mk b2 0 none) w6 fun s7 => K (.tuple #[s7.v, (.bool false)]) w6) (nn p1 fun a8 => ldC (a8.add 3) w3 fun l9a l9n _ => ixS 5 l9a l9n 0 fun a10 => ldR38 a10 w3 fun s11 => alc (.cells ((R38.mk 0 0 0 false none 0 0)).c 39) w3 fun b12 w13 => stcL (Addr.mk b12 0 none) 0 s11.l w13 fun w14 => ∃ l15a l15n l15c, ∃ w16, Sem.run Try.prog (Instr.buildSlice 49 0 #[]) w14 = .ok (.slice l15a l15n l15c) w16 ∧ (nn p1 fun a17 => ldC (a17.add 3) w16 fun l18a l18n l18c => slS 5 l18a l18n l18c (some (.int .i64 1)) none fun l19a l19n l19c => ∃ l20a l20n l20c w21, Sem.run Try.prog (Builtin.append_ #[49, 49] 49 #[(.slice l15a l15n l15c), (.slice l19a l19n l19c)]) w16 = .ok (.slice l20a l20n l20c) w21 ∧ (nn p1 fun a22 => stc (a22.add 3) (.slice l20a l20n l20c) w21 fun w23 => ldR38 (Addr.mk b12 0 none) w23 fun s24 => stcL (Addr.mk b2 0 none) 0 s24.l w23 fun w25 => ldR38 (Addr.mk b2 0 none) w25 fun s26 => K (.tuple #[s26.v, (.bool true)]) w25)))
theorem F39_step (x0 : Value) (w : World) (K : Value → World → Prop) : (F39 x0 w K) = rsh [(0, (.one .ptr))] (args0 #[x0]) (fun t => vc Try.prog (orcOf []) [] F39_code (retQ Try.prog Try.f39 K) t w) := by kernel_rfl
theorem F39_ok {x0 : Value} {w : World} {K : Value → World → Prop} (h : F39 x0 w K) : Calls Try.prog 39 #[x0] w fun e w' => ∃ v, e = .returned v ∧ K v w' := by
  rw [F39_step] at h
  exact calls_of (c := F39_code) mixed Try.func39 rfl (nlt rfl) (vc_sound mixed (orcNil F39_code) F39_code [] rfl F39_code_ok _ _ _ (rsh_out h))

/-! ropewalk/ropewalkref16.SameMessage -/
noncomputable def F40_code : Code := Try.f40.body.getD .skip
theorem F40_code_ok : okC Try.prog Try.f40.ntmps F40_code = true := by kernel_rfl
def F40 (x0 : Value) (x1 : Value) (w : World) (K : Value → World → Prop) : Prop :=
  exR38 fun s1 => x0 = s1.v ∧ (exR38 fun s2 => x1 = s2.v ∧ (alc (.cells s1.c 39) w fun b3 w4 => alc (.cells s2.c 39) w4 fun b5 w6 => ldI .u16 ((Addr.mk b3 0 none).add 0) w6 fun n7 => ldI .u16 ((Addr.mk b5 0 none).add 0) w6 fun n8 => br (n7 == n8) (ldI .u16 ((Addr.mk b3 0 none).add 1) w6 fun n9 => ldI .u16 ((Addr.mk b5 0 none).add 1) w6 fun n10 => br (n9 == n10) (ldI .u32 ((Addr.mk b3 0 none).add 2) w6 fun n11 => ldI .u32 ((Addr.mk b5 0 none).add 2) w6 fun n12 => br (n11 == n12) (ldB ((Addr.mk b3 0 none).add 3) w6 fun b13 => ldB ((Addr.mk b5 0 none).add 3) w6 fun b14 => br (b13 == b14) (ldC ((Addr.mk b3 0 none).add 4) w6 fun l15a l15n l15c => ∃ s16, ∃ w17, Sem.run Try.prog (convert 22 9 (.slice l15a l15n l15c)) w6 = .ok (.string s16) w17 ∧ (ldC ((Addr.mk b5 0 none).add 4) w17 fun l18a l18n l18c => ∃ s19, ∃ w20, Sem.run Try.prog (convert 22 9 (.slice l18a l18n l18c)) w17 = .ok (.string s19) w20 ∧ (K (.bool (ByteArray.toList s16 == ByteArray.toList s19)) w20))) (K (.bool false) w6)) (K (.bool false) w6)) (K (.bool false) w6)) (K (.bool false) w6)))
theorem F40_step (x0 : Value) (x1 : Value) (w : World) (K : Value → World → Prop) : (F40 x0 x1 w K) = rsh [(0, (.agg [(.int .u16), (.int .u16), (.int .u32), .bool, .slc])), (1, (.agg [(.int .u16), (.int .u16), (.int .u32), .bool, .slc]))] (args0 #[x0, x1]) (fun t => vc Try.prog (orcOf []) [] F40_code (retQ Try.prog Try.f40 K) t w) := by kernel_rfl
theorem F40_ok {x0 x1 : Value} {w : World} {K : Value → World → Prop} (h : F40 x0 x1 w K) : Calls Try.prog 40 #[x0, x1] w fun e w' => ∃ v, e = .returned v ∧ K v w' := by
  rw [F40_step] at h
  exact calls_of (c := F40_code) mixed Try.func40 rfl (nlt rfl) (vc_sound mixed (orcNil F40_code) F40_code [] rfl F40_code_ok _ _ _ (rsh_out h))

/-! (*ropewalk/ropewalkref20.Table).Drop -/
noncomputable def F41_code : Code := Try.f41.body.getD .skip
theorem F41_code_ok : okC Try.prog Try.f41.ntmps F41_code = true := by kernel_rfl
def F41_1C (K0 : Value → Value → World → Prop) : Post := fun o t w => match o with | .normal => False | .exit i => (match Nat.beq i 0 with | true => K0 (t 0) (t 6) w | false => False) | .ret => False
def F41_1B (R : Value → Value → Value → World → Prop) (K0 : Value → Value → World → Prop) (x0 : Value) (x6 : Value) (x7 : Value) (w : World) : Prop :=
  rdP x0 fun p1 => rdC x6 fun l2a l2n l2c => rdI .i64 x7 fun n3 => nn p1 fun a4 => ldC (a4.add 6) w fun _ l5n _ => br (decide ((n3 : Int) < (l5n : Int))) (nn p1 fun a6 => ldC (a6.add 6) w fun l7a l7n _ => ixS 1 l7a l7n n3 fun a8 => ldI .u32 a8 w fun n9 => Calls Try.prog 64 #[(.pointer p1), (.int .u32 n9)] w fun e11 w10 => ∃ l12a l12n l12c, e11 = .returned (.slice l12a l12n l12c) ∧ (br (decide (((l12n : Int) : Int) > 0)) (nn p1 fun a13 => ldC (a13.add 6) w10 fun l14a l14n _ => ixS 1 l14a l14n n3 fun a15 => ldI .u32 a15 w10 fun n16 => alc (.cells #[(.int .u32 n16)] 30) w10 fun b17 w18 => ∃ l19a l19n l19c w20, Sem.run Try.prog (Builtin.append_ #[33, 33] 33 #[(.slice l2a l2n l2c), (.slice (some (Addr.mk b17 0 none)) 1 1)]) w18 = .ok (.slice l19a l19n l19c) w20 ∧ (R (.pointer p1) (.slice l19a l19n l19c) (.int .i64 (IntKind.wrap .i64 (n3 + 1))) w20)) (R (.pointer p1) (.slice l2a l2n l2c) (.int .i64 (IntKind.wrap .i64 (n3 + 1))) w10))) (K0 (.pointer p1) (.slice l2a l2n l2c) w)
def F41_1 (K0 : Value → Value → World → Prop) : Nat → Value → Value → Value → World → Prop
  | 0 => fun _ _ _ _ => False
  | n + 1 => F41_1B (F41_1 K0 n) K0
def F41_1O (Q : Post) (t : Tm) (w : World) : Prop := ∃ n, F41_1 (fun y0 y6 w => ∀ g, rsh [(0, (.one .ptr)), (6, (.one .slc))] (upds g [(0, y0), (6, y6)]) fun t => Q (.exit 0) t w) n (t 0) (t 6) (t 7) w
theorem F41_1_step (K0 : Value → Value → World → Prop) (n : Nat) (t : Tm) (w : World) : (F41_1 K0 (n + 1) (t 0) (t 6) (t 7) w) = rsh [(0, (.one .ptr)), (6, (.one .slc)), (7, (.one (.int .i64)))] t (fun t => vc Try.prog (orcOf []) [0, 0, 1, 0, 1, 1, 1, 1] (getAt F41_code [0, 0, 1, 0, 1, 1, 1, 1]) (fun o t w => match o with | .normal => F41_1 K0 n (t 0) (t 6) (t 7) w | .exit i => F41_1C K0 (.exit i) t w | .ret => F41_1C K0 .ret t w) t w) := by kernel_rfl
theorem F41_1_ok : ∀ Q t w, F41_1O Q t w → W Try.prog Try.f41.ntmps (getAt F41_code [0, 1, 0, 1, 1, 1, 1]) Q t w := by
  intro Q t w ⟨n, h⟩
  refine (W_loop (P := Try.prog) (b := getAt F41_code [0, 0, 1, 0, 1, 1, 1, 1]) (Q := F41_1C (fun y0 y6 w => ∀ g, rsh [(0, (.one .ptr)), (6, (.one .slc))] (upds g [(0, y0), (6, y6)]) fun t => Q (.exit 0) t w)) (G := fun n t w => F41_1 (fun y0 y6 w => ∀ g, rsh [(0, (.one .ptr)), (6, (.one .slc))] (upds g [(0, y0), (6, y6)]) fun t => Q (.exit 0) t w) n (t 0) (t 6) (t 7) w) (fun _ _ h => h) (fun n t w h => ?_) n t w h).mono ?_
  · rw [F41_1_step] at h
    exact vc_sound mixed (orcNil F41_code) _ _ rfl (okC_at F41_code_ok [0, 0, 1, 0, 1, 1, 1, 1]) _ _ _ (rsh_out h)
  · intro o t w q
    cases o with
    | normal => exact q.elim
    | exit i =>
      unfold F41_1C at q
      simp only at q
      split at q
      · rename_i hi
        rw [nbeq] at hi
        subst hi
        exact out_ok [0, 6] q
      · exact q.elim
    | ret => exact q.elim
def F41 (x0 : Value) (x1 : Value) (w : World) (K : Value → World → Prop) : Prop :=
  rdP x0 fun p1 => rdI .u32 x1 fun n2 => Calls Try.prog 60 #[(.pointer p1), (.int .u32 n2)] w fun e4 w3 => ∃ n5, e4 = .returned (.int .i64 n5) ∧ (br (decide ((n5 : Int) < 0)) (K (.tuple #[(.bool false), (.int .i64 0)]) w3) (nn p1 fun a6 => ldC (a6.add 2) w3 fun l7a l7n l7c => Calls Try.prog 67 #[(.slice l7a l7n l7c), (.int .u32 n2)] w3 fun e9 w8 => ∃ l10a l10n l10c, e9 = .returned (.slice l10a l10n l10c) ∧ (nn p1 fun a11 => stc (a11.add 2) (.slice l10a l10n l10c) w8 fun w12 => ∃ k20 : Nat, F41_1 (fun y0_12 y6_12 w14 => ∀ _g15 : Tm, rdP y0_12 fun p16 => rdC y6_12 fun l17a l17n l17c => nn p16 fun a18 => stc (a18.add 6) (.slice l17a l17n l17c) w14 fun w19 => K (.tuple #[(.bool true), (.int .i64 0)]) w19) k20 (.pointer p1) (.slice none 0 0) (.int .i64 0) w12)))
theorem F41_step (x0 : Value) (x1 : Value) (w : World) (K : Value → World → Prop) : (F41 x0 x1 w K) = rsh [(0, (.one .ptr)), (1, (.one (.int .u32)))] (args0 #[x0, x1]) (fun t => vc Try.prog (orcOf [([0, 1, 0, 1, 1, 1, 1], F41_1O)]) [] F41_code (retQ Try.prog Try.f41 K) t w) := by kernel_rfl
theorem F41_ok {x0 x1 : Value} {w : World} {K : Value → World → Prop} (h : F41 x0 x1 w K) : Calls Try.prog 41 #[x0, x1] w fun e w' => ∃ v, e = .returned v ∧ K v w' := by
  rw [F41_step] at h
  exact calls_of (c := F41_code) mixed Try.func41 rfl (nlt rfl) (vc_sound mixed (orcCons (π := [0, 1, 0, 1, 1, 1, 1]) F41_1_ok (orcNil F41_code)) F41_code [] rfl F41_code_ok _ _ _ (rsh_out h))

/-! (*ropewalk/ropewalkref20.Table).Move -/
noncomputable def F42_code : Code := Try.f42.body.getD .skip
theorem F42_code_ok : okC Try.prog Try.f42.ntmps F42_code = true := by kernel_rfl
def F42_1C (K0 : Value → Value → World → Prop) : Post := fun o t w => match o with | .normal => False | .exit i => (match Nat.beq i 0 with | true => K0 (t 0) (t 5) w | false => False) | .ret => False
def F42_1B (R : Value → Value → Value → Value → World → Prop) (K0 : Value → Value → World → Prop) (x0 : Value) (x1 : Value) (x5 : Value) (x6 : Value) (w : World) : Prop :=
  rdP x0 fun p1 => rdI .u32 x1 fun n2 => rdC x5 fun l3a l3n l3c => rdI .i64 x6 fun n4 => nn p1 fun a5 => ldC (a5.add 5) w fun _ l6n _ => br (decide ((n4 : Int) < (l6n : Int))) (nn p1 fun a7 => ldC (a7.add 5) w fun l8a l8n _ => ixS 1 l8a l8n n4 fun a9 => ldI .u32 a9 w fun n10 => Calls Try.prog 68 #[(.int .u32 n2), (.int .u32 n10)] w fun e12 w11 => ∃ n13, e12 = .returned (.int .i64 n13) ∧ (br (decide ((n13 : Int) > 0)) (nn p1 fun a14 => ldC (a14.add 5) w11 fun l15a l15n _ => ixS 1 l15a l15n n4 fun a16 => ldI .u32 a16 w11 fun n17 => alc (.cells #[(.int .u32 n17)] 30) w11 fun b18 w19 => ∃ l20a l20n l20c w21, Sem.run Try.prog (Builtin.append_ #[33, 33] 33 #[(.slice l3a l3n l3c), (.slice (some (Addr.mk b18 0 none)) 1 1)]) w19 = .ok (.slice l20a l20n l20c) w21 ∧ (R (.pointer p1) (.int .u32 n2) (.slice l20a l20n l20c) (.int .i64 (IntKind.wrap .i64 (n4 + 1))) w21)) (R (.pointer p1) (.int .u32 n2) (.slice l3a l3n l3c) (.int .i64 (IntKind.wrap .i64 (n4 + 1))) w11))) (K0 (.pointer p1) (.slice l3a l3n l3c) w)
def F42_1 (K0 : Value → Value → World → Prop) : Nat → Value → Value → Value → Value → World → Prop
  | 0 => fun _ _ _ _ _ => False
  | n + 1 => F42_1B (F42_1 K0 n) K0
def F42_1O (Q : Post) (t : Tm) (w : World) : Prop := ∃ n, F42_1 (fun y0 y5 w => ∀ g, rsh [(0, (.one .ptr)), (5, (.one .slc))] (upds g [(0, y0), (5, y5)]) fun t => Q (.exit 0) t w) n (t 0) (t 1) (t 5) (t 6) w
theorem F42_1_step (K0 : Value → Value → World → Prop) (n : Nat) (t : Tm) (w : World) : (F42_1 K0 (n + 1) (t 0) (t 1) (t 5) (t 6) w) = rsh [(0, (.one .ptr)), (1, (.one (.int .u32))), (5, (.one .slc)), (6, (.one (.int .i64)))] t (fun t => vc Try.prog (orcOf []) [0, 0, 1, 0, 1, 1] (getAt F42_code [0, 0, 1, 0, 1, 1]) (fun o t w => match o with | .normal => F42_1 K0 n (t 0) (t 1) (t 5) (t 6) w | .exit i => F42_1C K0 (.exit i) t w | .ret => F42_1C K0 .ret t w) t w) := by kernel_rfl
theorem F42_1_ok : ∀ Q t w, F42_1O Q t w → W Try.prog Try.f42.ntmps (getAt F42_code [0, 1, 0, 1, 1]) Q t w := by
  intro Q t w ⟨n, h⟩
  refine (W_loop (P := Try.prog) (b := getAt F42_code [0, 0, 1, 0, 1, 1]) (Q := F42_1C (fun y0 y5 w => ∀ g, rsh [(0, (.one .ptr)), (5, (.one .slc))] (upds g [(0, y0), (5, y5)]) fun t => Q (.exit 0) t w)) (G := fun n t w => F42_1 (fun y0 y5 w => ∀ g, rsh [(0, (.one .ptr)), (5, (.one .slc))] (upds g [(0, y0), (5, y5)]) fun t => Q (.exit 0) t w) n (t 0) (t 1) (t 5) (t 6) w) (fun _ _ h => h) (fun n t w h => ?_) n t w h).mono ?_
  · rw [F42_1_step] at h
    exact vc_sound mixed (orcNil F42_code) _ _ rfl (okC_at F42_code_ok [0, 0, 1, 0, 1, 1]) _ _ _ (rsh_out h)
  · intro o t w q
    cases o with
    | normal => exact q.elim
    | exit i =>
      unfold F42_1C at q
      simp only at q
      split at q
      · rename_i hi
        rw [nbeq] at hi
        subst hi
        exact out_ok [0, 5] q
      · exact q.elim
    | ret => exact q.elim
def F42 (x0 : Value) (x1 : Value) (w : World) (K : Value → World → Prop) : Prop :=
  rdP x0 fun p1 => rdI .u32 x1 fun n2 => ∃ k10 : Nat, F42_1 (fun y0_2 y5_2 w4 => ∀ _g5 : Tm, rdP y0_2 fun p6 => rdC y5_2 fun l7a l7n l7c => nn p6 fun a8 => stc (a8.add 5) (.slice l7a l7n l7c) w4 fun w9 => K (.int .i64 0) w9) k10 (.pointer p1) (.int .u32 n2) (.slice none 0 0) (.int .i64 0) w
theorem F42_step (x0 : Value) (x1 : Value) (w : World) (K : Value → World → Prop) : (F42 x0 x1 w K) = rsh [(0, (.one .ptr)), (1, (.one (.int .u32)))] (args0 #[x0, x1]) (fun t => vc Try.prog (orcOf [([0, 1, 0, 1, 1], F42_1O)]) [] F42_code (retQ Try.prog Try.f42 K) t w) := by kernel_rfl
theorem F42_ok {x0 x1 : Value} {w : World} {K : Value → World → Prop} (h : F42 x0 x1 w K) : Calls Try.prog 42 #[x0, x1] w fun e w' => ∃ v, e = .returned v ∧ K v w' := by
  rw [F42_step] at h
  exact calls_of (c := F42_code) mixed Try.func42 rfl (nlt rfl) (vc_sound mixed (orcCons (π := [0, 1, 0, 1, 1]) F42_1_ok (orcNil F42_code)) F42_code [] rfl F42_code_ok _ _ _ (rsh_out h))

/-! (*ropewalk/ropewalkref20.Table).Held -/
noncomputable def F43_code : Code := Try.f43.body.getD .skip
theorem F43_code_ok : okC Try.prog Try.f43.ntmps F43_code = true := by kernel_rfl
def F43_1C (K2 : Value → World → Prop) : Post := fun o t w => match o with | .normal => False | .exit i => (match Nat.beq i 2 with | true => K2 (t 3) w | false => False) | .ret => False
def F43_1B (R : Value → Value → Value → World → Prop) (K2 : Value → World → Prop) (x0 : Value) (x3 : Value) (x5 : Value) (w : World) : Prop :=
  rdP x0 fun p1 => rdI .i64 x3 fun n2 => rdI .i64 x5 fun n3 => nn p1 fun a4 => ldC (a4.add 3) w fun _ l5n _ => br (decide ((n3 : Int) < (l5n : Int))) (nn p1 fun a6 => ldC (a6.add 3) w fun l7a l7n _ => ixS 5 l7a l7n n3 fun a8 => ldC (a8.add 4) w fun _ l9n _ => R (.pointer p1) (.int .i64 (IntKind.wrap .i64 (n2 + (l9n : Int)))) (.int .i64 (IntKind.wrap .i64 (n3 + 1))) w) (K2 (.int .i64 n2) w)
def F43_1 (K2 : Value → World → Prop) : Nat → Value → Value → Value → World → Prop
  | 0 => fun _ _ _ _ => False
  | n + 1 => F43_1B (F43_1 K2 n) K2
def F43_1O (Q : Post) (t : Tm) (w : World) : Prop := ∃ n, F43_1 (fun y3 w => ∀ g, rsh [(3, (.one (.int .i64)))] (upds g [(3, y3)]) fun t => Q (.exit 2) t w) n (t 0) (t 3) (t 5) w
theorem F43_1_step (K2 : Value → World → Prop) (n : Nat) (t : Tm) (w : World) : (F43_1 K2 (n + 1) (t 0) (t 3) (t 5) w) = rsh [(0, (.one .ptr)), (3, (.one (.int .i64))), (5, (.one (.int .i64)))] t (fun t => vc Try.prog (orcOf []) [0, 0, 1, 0, 1, 1, 1] (getAt F43_code [0, 0, 1, 0, 1, 1, 1]) (fun o t w => match o with | .normal => F43_1 K2 n (t 0) (t 3) (t 5) w | .exit i => F43_1C K2 (.exit i) t w | .ret => F43_1C K2 .ret t w) t w) := by kernel_rfl
theorem F43_1_ok : ∀ Q t w, F43_1O Q t w → W Try.prog Try.f43.ntmps (getAt F43_code [0, 1, 0, 1, 1, 1]) Q t w := by
  intro Q t w ⟨n, h⟩
  refine (W_loop (P := Try.prog) (b := getAt F43_code [0, 0, 1, 0, 1, 1, 1]) (Q := F43_1C (fun y3 w => ∀ g, rsh [(3, (.one (.int .i64)))] (upds g [(3, y3)]) fun t => Q (.exit 2) t w)) (G := fun n t w => F43_1 (fun y3 w => ∀ g, rsh [(3, (.one (.int .i64)))] (upds g [(3, y3)]) fun t => Q (.exit 2) t w) n (t 0) (t 3) (t 5) w) (fun _ _ h => h) (fun n t w h => ?_) n t w h).mono ?_
  · rw [F43_1_step] at h
    exact vc_sound mixed (orcNil F43_code) _ _ rfl (okC_at F43_code_ok [0, 0, 1, 0, 1, 1, 1]) _ _ _ (rsh_out h)
  · intro o t w q
    cases o with
    | normal => exact q.elim
    | exit i =>
      unfold F43_1C at q
      simp only at q
      split at q
      · rename_i hi
        rw [nbeq] at hi
        subst hi
        exact out_ok [3] q
      · exact q.elim
    | ret => exact q.elim
def F43_2C (K0 : Value → Value → World → Prop) : Post := fun o t w => match o with | .normal => False | .exit i => (match Nat.beq i 0 with | true => K0 (t 0) (t 3) w | false => False) | .ret => False
def F43_2B (R : Value → Value → Value → World → Prop) (K0 : Value → Value → World → Prop) (x0 : Value) (x3 : Value) (x4 : Value) (w : World) : Prop :=
  rdP x0 fun p1 => rdI .i64 x3 fun n2 => rdI .i64 x4 fun n3 => nn p1 fun a4 => ldC (a4.add 2) w fun _ l5n _ => br (decide ((n3 : Int) < (l5n : Int))) (nn p1 fun a6 => ldC (a6.add 2) w fun l7a l7n _ => ixS 15 l7a l7n n3 fun a8 => ldC (a8.add 13) w fun _ l9n _ => R (.pointer p1) (.int .i64 (IntKind.wrap .i64 (n2 + (l9n : Int)))) (.int .i64 (IntKind.wrap .i64 (n3 + 1))) w) (K0 (.pointer p1) (.int .i64 n2) w)
def F43_2 (K0 : Value → Value → World → Prop) : Nat → Value → Value → Value → World → Prop
  | 0 => fun _ _ _ _ => False
  | n + 1 => F43_2B (F43_2 K0 n) K0
def F43_2O (Q : Post) (t : Tm) (w : World) : Prop := ∃ n, F43_2 (fun y0 y3 w => ∀ g, rsh [(0, (.one .ptr)), (3, (.one (.int .i64)))] (upds g [(0, y0), (3, y3)]) fun t => Q (.exit 0) t w) n (t 0) (t 3) (t 4) w
theorem F43_2_step (K0 : Value → Value → World → Prop) (n : Nat) (t : Tm) (w : World) : (F43_2 K0 (n + 1) (t 0) (t 3) (t 4) w) = rsh [(0, (.one .ptr)), (3, (.one (.int .i64))), (4, (.one (.int .i64)))] t (fun t => vc Try.prog (orcOf []) [0, 0, 1, 0, 1, 1] (getAt F43_code [0, 0, 1, 0, 1, 1]) (fun o t w => match o with | .normal => F43_2 K0 n (t 0) (t 3) (t 4) w | .exit i => F43_2C K0 (.exit i) t w | .ret => F43_2C K0 .ret t w) t w) := by kernel_rfl
theorem F43_2_ok : ∀ Q t w, F43_2O Q t w → W Try.prog Try.f43.ntmps (getAt F43_code [0, 1, 0, 1, 1]) Q t w := by
  intro Q t w ⟨n, h⟩
  refine (W_loop (P := Try.prog) (b := getAt F43_code [0, 0, 1, 0, 1, 1]) (Q := F43_2C (fun y0 y3 w => ∀ g, rsh [(0, (.one .ptr)), (3, (.one (.int .i64)))] (upds g [(0, y0), (3, y3)]) fun t => Q (.exit 0) t w)) (G := fun n t w => F43_2 (fun y0 y3 w => ∀ g, rsh [(0, (.one .ptr)), (3, (.one (.int .i64)))] (upds g [(0, y0), (3, y3)]) fun t => Q (.exit 0) t w) n (t 0) (t 3) (t 4) w) (fun _ _ h => h) (fun n t w h => ?_) n t w h).mono ?_
  · rw [F43_2_step] at h
    exact vc_sound mixed (orcNil F43_code) _ _ rfl (okC_at F43_code_ok [0, 0, 1, 0, 1, 1]) _ _ _ (rsh_out h)
  · intro o t w q
    cases o with
    | normal => exact q.elim
    | exit i =>
      unfold F43_2C at q
      simp only at q
      split at q
      · rename_i hi
        rw [nbeq] at hi
        subst hi
        exact out_ok [0, 3] q
      · exact q.elim
    | ret => exact q.elim
def F43 (x0 : Value) (w : World) (K : Value → World → Prop) : Prop :=
  rdP x0 fun p1 => ∃ k12 : Nat, F43_2 (fun y0_1 y3_1 w3 => ∀ _g4 : Tm, rdP y0_1 fun p5 => rdI .i64 y3_1 fun n6 => ∃ k11 : Nat, F43_1 (fun y3_6 w8 => ∀ _g9 : Tm, rdI .i64 y3_6 fun n10 => K (.int .i64 n10) w8) k11 (.pointer p5) (.int .i64 n6) (.int .i64 0) w3) k12 (.pointer p1) (.int .i64 0) (.int .i64 0) w
theorem F43_step (x0 : Value) (w : World) (K : Value → World → Prop) : (F43 x0 w K) = rsh [(0, (.one .ptr))] (args0 #[x0]) (fun t => vc Try.prog (orcOf [([0, 1, 0, 1, 1, 1], F43_1O), ([0, 1, 0, 1, 1], F43_2O)]) [] F43_code (retQ Try.prog Try.f43 K) t w) := by kernel_rfl
theorem F43_ok {x0 : Value} {w : World} {K : Value → World → Prop} (h : F43 x0 w K) : Calls Try.prog 43 #[x0] w fun e w' => ∃ v, e = .returned v ∧ K v w' := by
  rw [F43_step] at h
  exact calls_of (c := F43_code) mixed Try.func43 rfl (nlt rfl) (vc_sound mixed (orcCons (π := [0, 1, 0, 1, 1, 1]) F43_1_ok (orcCons (π := [0, 1, 0, 1, 1]) F43_2_ok (orcNil F43_code))) F43_code [] rfl F43_code_ok _ _ _ (rsh_out h))

/-! (*ropewalk/ropewalkref20.Table).Chunks -/
noncomputable def F44_code : Code := Try.f44.body.getD .skip
theorem F44_code_ok : okC Try.prog Try.f44.ntmps F44_code = true := by kernel_rfl
def F44_1C (K2 : Value → Value → Value → Value → World → Prop) : Post := fun o t w => match o with | .normal => False | .exit i => (match Nat.beq i 2 with | true => K2 (t 0) (t 3) (t 4) (t 5) w | false => False) | .ret => False
def F44_1B (R : Value → Value → Value → Value → World → Prop) (K2 : Value → Value → Value → Value → World → Prop) (x0 : Value) (x3 : Value) (x4 : Value) (x5 : Value) (w : World) : Prop :=
  rdP x0 fun p1 => rdC x3 fun l2a l2n l2c => rdI .i64 x4 fun n3 => rdI .i64 x5 fun n4 => drw w fun w5 => br (decide ((n4 : Int) < (l2n : Int))) (ixS 1 l2a l2n n4 fun a6 => ldI .u32 a6 w5 fun n7 => nn p1 fun a8 => ldC (a8.add 2) w5 fun l9a l9n _ => ixS 15 l9a l9n n3 fun a10 => ldI .u32 (a10.add 2) w5 fun n11 => br (decide ((n7 : Int) < n11)) (R (.pointer p1) (.slice l2a l2n l2c) (.int .i64 n3) (.int .i64 (IntKind.wrap .i64 (n4 + 1))) w5) (K2 (.pointer p1) (.slice l2a l2n l2c) (.int .i64 n3) (.int .i64 n4) w5)) (K2 (.pointer p1) (.slice l2a l2n l2c) (.int .i64 n3) (.int .i64 n4) w5)
def F44_1 (K2 : Value → Value → Value → Value → World → Prop) : Nat → Value → Value → Value → Value → World → Prop
  | 0 => fun _ _ _ _ _ => False
  | n + 1 => F44_1B (F44_1 K2 n) K2
def F44_1O (Q : Post) (t : Tm) (w : World) : Prop := ∃ n, F44_1 (fun y0 y3 y4 y5 w => ∀ g, rsh [(0, (.one .ptr)), (3, (.one .slc)), (4, (.one (.int .i64))), (5, (.one (.int .i64)))] (upds g [(0, y0), (3, y3), (4, y4), (5, y5)]) fun t => Q (.exit 2) t w) n (t 0) (t 3) (t 4) (t 5) w
theorem F44_1_step (K2 : Value → Value → Value → Value → World → Prop) (n : Nat) (t : Tm) (w : World) : (F44_1 K2 (n + 1) (t 0) (t 3) (t 4) (t 5) w) = rsh [(0, (.one .ptr)), (3, (.one .slc)), (4, (.one (.int .i64))), (5, (.one (.int .i64)))] t (fun t => vc Try.prog (orcOf []) [0, 0, 0, 1, 0, 0, 1, 0, 0, 1, 0, 1, 1] (getAt F44_code [0, 0, 0, 1, 0, 0, 1, 0, 0, 1, 0, 1, 1]) (fun o t w => match o with | .normal => F44_1 K2 n (t 0) (t 3) (t 4) (t 5) w | .exit i => F44_1C K2 (.exit i) t w | .ret => F44_1C K2 .ret t w) t w) := by kernel_rfl
theorem F44_1_ok : ∀ Q t w, F44_1O Q t w → W Try.prog Try.f44.ntmps (getAt F44_code [0, 0, 1, 0, 0, 1, 0, 0, 1, 0, 1, 1]) Q t w := by
  intro Q t w ⟨n, h⟩
  refine (W_loop (P := Try.prog) (b := getAt F44_code [0, 0, 0, 1, 0, 0, 1, 0, 0, 1, 0, 1, 1]) (Q := F44_1C (fun y0 y3 y4 y5 w => ∀ g, rsh [(0, (.one .ptr)), (3, (.one .slc)), (4, (.one (.int .i64))), (5, (.one (.int .i64)))] (upds g [(0, y0), (3, y3), (4, y4), (5, y5)]) fun t => Q (.exit 2) t w)) (G := fun n t w => F44_1 (fun y0 y3 y4 y5 w => ∀ g, rsh [(0, (.one .ptr)), (3, (.one .slc)), (4, (.one (.int .i64))), (5, (.one (.int .i64)))] (upds g [(0, y0), (3, y3), (4, y4), (5, y5)]) fun t => Q (.exit 2) t w) n (t 0) (t 3) (t 4) (t 5) w) (fun _ _ h => h) (fun n t w h => ?_) n t w h).mono ?_
  · rw [F44_1_step] at h
    exact vc_sound mixed (orcNil F44_code) _ _ rfl (okC_at F44_code_ok [0, 0, 0, 1, 0, 0, 1, 0, 0, 1, 0, 1, 1]) _ _ _ (rsh_out h)
  · intro o t w q
    cases o with
    | normal => exact q.elim
    | exit i =>
      unfold F44_1C at q
      simp only at q
      split at q
      · rename_i hi
        rw [nbeq] at hi
        subst hi
        exact out_ok [0, 3, 4, 5] q
      · exact q.elim
    | ret => exact q.elim
def F44_2C (K0 : Value → World → Prop) : Post := fun o t w => match o with | .normal => False | .exit i => (match Nat.beq i 0 with | true => K0 (t 3) w | false => False) | .ret => False
def F44_2B (R : Value → Value → Value → World → Prop) (K0 : Value → World → Prop) (x0 : Value) (x3 : Value) (x4 : Value) (w : World) : Prop :=
  rdP x0 fun p1 => rdC x3 fun l2a l2n l2c => rdI .i64 x4 fun n3 => nn p1 fun a4 => ldC (a4.add 2) w fun _ l5n _ => br (decide ((n3 : Int) < (l5n : Int))) (∃ k29 : Nat, F44_1 (fun y0_5 y3_5 y4_5 y5_5 w7 => ∀ _g8 : Tm, rdP y0_5 fun p9 => rdC y3_5 fun l10a l10n l10c => rdI .i64 y4_5 fun n11 => rdI .i64 y5_5 fun n12 => ∃ l13a l13n l13c, ∃ w14, Sem.run Try.prog (Instr.buildSlice 33 0 #[]) w7 = .ok (.slice l13a l13n l13c) w14 ∧ (slS 1 l10a l10n l10c none (some (.int .i64 n12)) fun l15a l15n l15c => ∃ l16a l16n l16c w17, Sem.run Try.prog (Builtin.append_ #[33, 33] 33 #[(.slice l13a l13n l13c), (.slice l15a l15n l15c)]) w14 = .ok (.slice l16a l16n l16c) w17 ∧ (nn p9 fun a18 => ldC (a18.add 2) w17 fun l19a l19n _ => ixS 15 l19a l19n n11 fun a20 => ldI .u32 (a20.add 2) w17 fun n21 => alc (.cells #[(.int .u32 n21)] 30) w17 fun b22 w23 => ∃ l24a l24n l24c w25, Sem.run Try.prog (Builtin.append_ #[33, 33] 33 #[(.slice l16a l16n l16c), (.slice (some (Addr.mk b22 0 none)) 1 1)]) w23 = .ok (.slice l24a l24n l24c) w25 ∧ (slS 1 l10a l10n l10c (some (.int .i64 n12)) none fun l26a l26n l26c => ∃ l27a l27n l27c w28, Sem.run Try.prog (Builtin.append_ #[33, 33] 33 #[(.slice l24a l24n l24c), (.slice l26a l26n l26c)]) w25 = .ok (.slice l27a l27n l27c) w28 ∧ (R (.pointer p9) (.slice l27a l27n l27c) (.int .i64 (IntKind.wrap .i64 (n11 + 1))) w28))))) k29 (.pointer p1) (.slice l2a l2n l2c) (.int .i64 n3) (.int .i64 0) w) (K0 (.slice l2a l2n l2c) w)
def F44_2 (K0 : Value → World → Prop) : Nat → Value → Value → Value → World → Prop
  | 0 => fun _ _ _ _ => False
  | n + 1 => F44_2B (F44_2 K0 n) K0
def F44_2O (Q : Post) (t : Tm) (w : World) : Prop := ∃ n, F44_2 (fun y3 w => ∀ g, rsh [(3, (.one .slc))] (upds g [(3, y3)]) fun t => Q (.exit 0) t w) n (t 0) (t 3) (t 4) w
theorem F44_2_step (K0 : Value → World → Prop) (n : Nat) (t : Tm) (w : World) : (F44_2 K0 (n + 1) (t 0) (t 3) (t 4) w) = rsh [(0, (.one .ptr)), (3, (.one .slc)), (4, (.one (.int .i64)))] t (fun t => vc Try.prog (orcOf [([0, 0, 1, 0, 0, 1, 0, 0, 1, 0, 1, 1], F44_1O)]) [0, 0, 1, 0, 1, 1] (getAt F44_code [0, 0, 1, 0, 1, 1]) (fun o t w => match o with | .normal => F44_2 K0 n (t 0) (t 3) (t 4) w | .exit i => F44_2C K0 (.exit i) t w | .ret => F44_2C K0 .ret t w) t w) := by kernel_rfl
theorem F44_2_ok : ∀ Q t w, F44_2O Q t w → W Try.prog Try.f44.ntmps (getAt F44_code [0, 1, 0, 1, 1]) Q t w := by
  intro Q t w ⟨n, h⟩
  refine (W_loop (P := Try.prog) (b := getAt F44_code [0, 0, 1, 0, 1, 1]) (Q := F44_2C (fun y3 w => ∀ g, rsh [(3, (.one .slc))] (upds g [(3, y3)]) fun t => Q (.exit 0) t w)) (G := fun n t w => F44_2 (fun y3 w => ∀ g, rsh [(3, (.one .slc))] (upds g [(3, y3)]) fun t => Q (.exit 0) t w) n (t 0) (t 3) (t 4) w) (fun _ _ h => h) (fun n t w h => ?_) n t w h).mono ?_
  · rw [F44_2_step] at h
    exact vc_sound mixed (orcCons (π := [0, 0, 1, 0, 0, 1, 0, 0, 1, 0, 1, 1]) F44_1_ok (orcNil F44_code)) _ _ rfl (okC_at F44_code_ok [0, 0, 1, 0, 1, 1]) _ _ _ (rsh_out h)
  · intro o t w q
    cases o with
    | normal => exact q.elim
    | exit i =>
      unfold F44_2C at q
      simp only at q
      split at q
      · rename_i hi
        rw [nbeq] at hi
        subst hi
        exact out_ok [3] q
      · exact q.elim
    | ret => exact q.elim
def F44 (x0 : Value) (w : World) (K : Value → World → Prop) : Prop :=
  rdP x0 fun p1 => ∃ k6 : Nat, F44_2 (fun y3_1 w3 => ∀ _g4 : Tm, rdC y3_1 fun l5a l5n l5c => K (.slice l5a l5n l5c) w3) k6 (.pointer p1) (.slice none 0 0) (.int .i64 0) w
theorem F44_step (x0 : Value) (w : World) (K : Value → World → Prop) : (F44 x0 w K) = rsh [(0, (.one .ptr))] (args0 #[x0]) (fun t => vc Try.prog (orcOf [([0, 0, 1, 0, 0, 1, 0, 0, 1, 0, 1, 1], F44_1O), ([0, 1, 0, 1, 1], F44_2O)]) [] F44_code (retQ Try.prog Try.f44 K) t w) := by kernel_rfl
theorem F44_ok {x0 : Value} {w : World} {K : Value → World → Prop} (h : F44 x0 w K) : Calls Try.prog 44 #[x0] w fun e w' => ∃ v, e = .returned v ∧ K v w' := by
  rw [F44_step] at h
  exact calls_of (c := F44_code) mixed Try.func44 rfl (nlt rfl) (vc_sound mixed (orcCons (π := [0, 0, 1, 0, 0, 1, 0, 0, 1, 0, 1, 1]) F44_1_ok (orcCons (π := [0, 1, 0, 1, 1]) F44_2_ok (orcNil F44_code))) F44_code [] rfl F44_code_ok _ _ _ (rsh_out h))

/-! (*ropewalk/ropewalkref20.Table).Fixed -/
noncomputable def F45_code : Code := Try.f45.body.getD .skip
theorem F45_code_ok : okC Try.prog Try.f45.ntmps F45_code = true := by kernel_rfl
def F45_1C (K2 : Value → Value → Value → Value → Value → World → Prop) : Post := fun o t w => match o with | .normal => False | .exit i => (match Nat.beq i 2 with | true => K2 (t 0) (t 1) (t 5) (t 6) (t 8) w | false => False) | .ret => False
def F45_1B (R : Value → Value → Value → Value → Value → Value → World → Prop) (K2 : Value → Value → Value → Value → Value → World → Prop) (x0 : Value) (x1 : Value) (x5 : Value) (x6 : Value) (x7 : Value) (x8 : Value) (w : World) : Prop :=
  rdP x0 fun p1 => rdI .u32 x1 fun n2 => rdC x5 fun l3a l3n l3c => rdI .i64 x6 fun n4 => rdI .i64 x7 fun n5 => rdI .i64 x8 fun n6 => br (decide ((n6 : Int) < (l3n : Int))) (ixS 1 l3a l3n n6 fun a7 => ldI .u32 a7 w fun n8 => Calls Try.prog 68 #[(.int .u32 n2), (.int .u32 n8)] w fun e10 w9 => ∃ n11, e10 = .returned (.int .i64 n11) ∧ (br (decide ((n11 : Int) < n5)) (R (.pointer p1) (.int .u32 n2) (.slice l3a l3n l3c) (.int .i64 n4) (.int .i64 n5) (.int .i64 (IntKind.wrap .i64 (n6 + 1))) w9) (K2 (.pointer p1) (.int .u32 n2) (.slice l3a l3n l3c) (.int .i64 n4) (.int .i64 n6) w9))) (K2 (.pointer p1) (.int .u32 n2) (.slice l3a l3n l3c) (.int .i64 n4) (.int .i64 n6) w)
def F45_1 (K2 : Value → Value → Value → Value → Value → World → Prop) : Nat → Value → Value → Value → Value → Value → Value → World → Prop
  | 0 => fun _ _ _ _ _ _ _ => False
  | n + 1 => F45_1B (F45_1 K2 n) K2
def F45_1O (Q : Post) (t : Tm) (w : World) : Prop := ∃ n, F45_1 (fun y0 y1 y5 y6 y8 w => ∀ g, rsh [(0, (.one .ptr)), (1, (.one (.int .u32))), (5, (.one .slc)), (6, (.one (.int .i64))), (8, (.one (.int .i64)))] (upds g [(0, y0), (1, y1), (5, y5), (6, y6), (8, y8)]) fun t => Q (.exit 2) t w) n (t 0) (t 1) (t 5) (t 6) (t 7) (t 8) w
theorem F45_1_step (K2 : Value → Value → Value → Value → Value → World → Prop) (n : Nat) (t : Tm) (w : World) : (F45_1 K2 (n + 1) (t 0) (t 1) (t 5) (t 6) (t 7) (t 8) w) = rsh [(0, (.one .ptr)), (1, (.one (.int .u32))), (5, (.one .slc)), (6, (.one (.int .i64))), (7, (.one (.int .i64))), (8, (.one (.int .i64)))] t (fun t => vc Try.prog (orcOf []) [0, 0, 0, 1, 1, 1, 0, 0, 1, 0, 0, 1, 0, 1, 1] (getAt F45_code [0, 0, 0, 1, 1, 1, 0, 0, 1, 0, 0, 1, 0, 1, 1]) (fun o t w => match o with | .normal => F45_1 K2 n (t 0) (t 1) (t 5) (t 6) (t 7) (t 8) w | .exit i => F45_1C K2 (.exit i) t w | .ret => F45_1C K2 .ret t w) t w) := by kernel_rfl
theorem F45_1_ok : ∀ Q t w, F45_1O Q t w → W Try.prog Try.f45.ntmps (getAt F45_code [0, 0, 1, 1, 1, 0, 0, 1, 0, 0, 1, 0, 1, 1]) Q t w := by
  intro Q t w ⟨n, h⟩
  refine (W_loop (P := Try.prog) (b := getAt F45_code [0, 0, 0, 1, 1, 1, 0, 0, 1, 0, 0, 1, 0, 1, 1]) (Q := F45_1C (fun y0 y1 y5 y6 y8 w => ∀ g, rsh [(0, (.one .ptr)), (1, (.one (.int .u32))), (5, (.one .slc)), (6, (.one (.int .i64))), (8, (.one (.int .i64)))] (upds g [(0, y0), (1, y1), (5, y5), (6, y6), (8, y8)]) fun t => Q (.exit 2) t w)) (G := fun n t w => F45_1 (fun y0 y1 y5 y6 y8 w => ∀ g, rsh [(0, (.one .ptr)), (1, (.one (.int .u32))), (5, (.one .slc)), (6, (.one (.int .i64))), (8, (.one (.int .i64)))] (upds g [(0, y0), (1, y1), (5, y5), (6, y6), (8, y8)]) fun t => Q (.exit 2) t w) n (t 0) (t 1) (t 5) (t 6) (t 7) (t 8) w) (fun _ _ h => h) (fun n t w h => ?_) n t w h).mono ?_
  · rw [F45_1_step] at h
    exact vc_sound mixed (orcNil F45_code) _ _ rfl (okC_at F45_code_ok [0, 0, 0, 1, 1, 1, 0, 0, 1, 0, 0, 1, 0, 1, 1]) _ _ _ (rsh_out h)
  · intro o t w q
    cases o with
    | normal => exact q.elim
    | exit i =>
      unfold F45_1C at q
      simp only at q
      split at q
      · rename_i hi
        rw [nbeq] at hi
        subst hi
        exact out_ok [0, 1, 5, 6, 8] q
      · exact q.elim
    | ret => exact q.elim
def F45_2C (Kn : Value → Value → Value → Value → World → Prop) : Post := fun o t w => match o with | .normal => Kn (t 0) (t 1) (t 5) (t 6) w | .exit _ => (False) | .ret => False
def F45_2 (Kn : Value → Value → Value → Value → World → Prop) (x0 : Value) (x1 : Value) (x5 : Value) (x6 : Value) (x7 : Value) (w : World) : Prop :=
  rdP x0 fun p1 => rdI .u32 x1 fun n2 => rdC x5 fun l3a l3n l3c => rdI .i64 x6 fun n4 => rdI .i64 x7 fun n5 => ∃ k30 : Nat, F45_1 (fun y0_5 y1_5 y5_5 y6_5 y8_5 w7 => ∀ _g8 : Tm, rdP y0_5 fun p9 => rdI .u32 y1_5 fun n10 => rdC y5_5 fun l11a l11n l11c => rdI .i64 y6_5 fun n12 => rdI .i64 y8_5 fun n13 => ∃ l14a l14n l14c, ∃ w15, Sem.run Try.prog (Instr.buildSlice 33 0 #[]) w7 = .ok (.slice l14a l14n l14c) w15 ∧ (slS 1 l11a l11n l11c none (some (.int .i64 n13)) fun l16a l16n l16c => ∃ l17a l17n l17c w18, Sem.run Try.prog (Builtin.append_ #[33, 33] 33 #[(.slice l14a l14n l14c), (.slice l16a l16n l16c)]) w15 = .ok (.slice l17a l17n l17c) w18 ∧ (nn p9 fun a19 => ldC (a19.add 5) w18 fun l20a l20n _ => ixS 1 l20a l20n n12 fun a21 => ldI .u32 a21 w18 fun n22 => alc (.cells #[(.int .u32 n22)] 30) w18 fun b23 w24 => ∃ l25a l25n l25c w26, Sem.run Try.prog (Builtin.append_ #[33, 33] 33 #[(.slice l17a l17n l17c), (.slice (some (Addr.mk b23 0 none)) 1 1)]) w24 = .ok (.slice l25a l25n l25c) w26 ∧ (slS 1 l11a l11n l11c (some (.int .i64 n13)) none fun l27a l27n l27c => ∃ l28a l28n l28c w29, Sem.run Try.prog (Builtin.append_ #[33, 33] 33 #[(.slice l25a l25n l25c), (.slice l27a l27n l27c)]) w26 = .ok (.slice l28a l28n l28c) w29 ∧ (Kn (.pointer p9) (.int .u32 n10) (.slice l28a l28n l28c) (.int .i64 n12) w29))))) k30 (.pointer p1) (.int .u32 n2) (.slice l3a l3n l3c) (.int .i64 n4) (.int .i64 n5) (.int .i64 0) w
def F45_2O (Q : Post) (t : Tm) (w : World) : Prop := F45_2 (fun y0 y1 y5 y6 w => ∀ g, rsh [(0, (.one .ptr)), (1, (.one (.int .u32))), (5, (.one .slc)), (6, (.one (.int .i64)))] (upds g [(0, y0), (1, y1), (5, y5), (6, y6)]) fun t => Q .normal t w) (t 0) (t 1) (t 5) (t 6) (t 7) w
theorem F45_2_step (Kn : Value → Value → Value → Value → World → Prop) (t : Tm) (w : World) : (F45_2 Kn (t 0) (t 1) (t 5) (t 6) (t 7) w) = rsh [(0, (.one .ptr)), (1, (.one (.int .u32))), (5, (.one .slc)), (6, (.one (.int .i64))), (7, (.one (.int .i64)))] t (fun t => vc Try.prog (orcOf [([0, 0, 1, 1, 1, 0, 0, 1, 0, 0, 1, 0, 1, 1], F45_1O)]) [1, 1, 0, 0, 1, 0, 0, 1, 0, 1, 1] (getAt F45_code [1, 1, 0, 0, 1, 0, 0, 1, 0, 1, 1]) (F45_2C Kn) t w) := by kernel_rfl
theorem F45_2_ok : ∀ Q t w, F45_2O Q t w → W Try.prog Try.f45.ntmps (getAt F45_code [1, 1, 0, 0, 1, 0, 0, 1, 0, 1, 1]) Q t w := by
  intro Q t w h
  unfold F45_2O at h
  rw [F45_2_step] at h
  refine (vc_sound mixed (orcCons (π := [0, 0, 1, 1, 1, 0, 0, 1, 0, 0, 1, 0, 1, 1]) F45_1_ok (orcNil F45_code)) _ _ rfl (okC_at F45_code_ok [1, 1, 0, 0, 1, 0, 0, 1, 0, 1, 1]) _ _ _ (rsh_out h)).mono ?_
  intro o t w q
  cases o with
  | normal => exact out_ok [0, 1, 5, 6] q
  | exit i => exact q.elim
  | ret => exact q.elim
def F45_3C (K0 : Value → World → Prop) : Post := fun o t w => match o with | .normal => False | .exit i => (match Nat.beq i 0 with | true => K0 (t 5) w | false => False) | .ret => False
def F45_3B (R : Value → Value → Value → Value → World → Prop) (K0 : Value → World → Prop) (x0 : Value) (x1 : Value) (x5 : Value) (x6 : Value) (w : World) : Prop :=
  rdP x0 fun p1 => rdI .u32 x1 fun n2 => rdC x5 fun l3a l3n l3c => rdI .i64 x6 fun n4 => nn p1 fun a5 => ldC (a5.add 5) w fun _ l6n _ => br (decide ((n4 : Int) < (l6n : Int))) (nn p1 fun a7 => ldC (a7.add 5) w fun l8a l8n _ => ixS 1 l8a l8n n4 fun a9 => ldI .u32 a9 w fun n10 => Calls Try.prog 68 #[(.int .u32 n2), (.int .u32 n10)] w fun e12 w11 => ∃ n13, e12 = .returned (.int .i64 n13) ∧ (br (decide ((n13 : Int) < 1)) (R (.pointer p1) (.int .u32 n2) (.slice l3a l3n l3c) (.int .i64 (IntKind.wrap .i64 (n4 + 1))) w11) (br (decide ((n13 : Int) > 65535)) (R (.pointer p1) (.int .u32 n2) (.slice l3a l3n l3c) (.int .i64 (IntKind.wrap .i64 (n4 + 1))) w11) (F45_2 (fun y0_13 y1_13 y5_13 y6_13 w15 => ∀ _g16 : Tm, rdP y0_13 fun p17 => rdI .u32 y1_13 fun n18 => rdC y5_13 fun l19a l19n l19c => rdI .i64 y6_13 fun n20 => R (.pointer p17) (.int .u32 n18) (.slice l19a l19n l19c) (.int .i64 (IntKind.wrap .i64 (n20 + 1))) w15) (.pointer p1) (.int .u32 n2) (.slice l3a l3n l3c) (.int .i64 n4) (.int .i64 n13) w11)))) (K0 (.slice l3a l3n l3c) w)
def F45_3 (K0 : Value → World → Prop) : Nat → Value → Value → Value → Value → World → Prop
  | 0 => fun _ _ _ _ _ => False
  | n + 1 => F45_3B (F45_3 K0 n) K0
def F45_3O (Q : Post) (t : Tm) (w : World) : Prop := ∃ n, F45_3 (fun y5 w => ∀ g, rsh [(5, (.one .slc))] (upds g [(5, y5)]) fun t => Q (.exit 0) t w) n (t 0) (t 1) (t 5) (t 6) w
theorem F45_3_step (K0 : Value → World → Prop) (n : Nat) (t : Tm) (w : World) : (F45_3 K0 (n + 1) (t 0) (t 1) (t 5) (t 6) w) = rsh [(0, (.one .ptr)), (1, (.one (.int .u32))), (5, (.one .slc)), (6, (.one (.int .i64)))] t (fun t => vc Try.prog (orcOf [([0, 0, 1, 1, 1, 0, 0, 1, 0, 0, 1, 0, 1, 1], F45_1O), ([1, 1, 0, 0, 1, 0, 0, 1, 0, 1, 1], F45_2O)]) [0, 0, 1, 0, 1, 1] (getAt F45_code [0, 0, 1, 0, 1, 1]) (fun o t w => match o with | .normal => F45_3 K0 n (t 0) (t 1) (t 5) (t 6) w | .exit i => F45_3C K0 (.exit i) t w | .ret => F45_3C K0 .ret t w) t w) := by kernel_rfl
theorem F45_3_ok : ∀ Q t w, F45_3O Q t w → W Try.prog Try.f45.ntmps (getAt F45_code [0, 1, 0, 1, 1]) Q t w := by
  intro Q t w ⟨n, h⟩
  refine (W_loop (P := Try.prog) (b := getAt F45_code [0, 0, 1, 0, 1, 1]) (Q := F45_3C (fun y5 w => ∀ g, rsh [(5, (.one .slc))] (upds g [(5, y5)]) fun t => Q (.exit 0) t w)) (G := fun n t w => F45_3 (fun y5 w => ∀ g, rsh [(5, (.one .slc))] (upds g [(5, y5)]) fun t => Q (.exit 0) t w) n (t 0) (t 1) (t 5) (t 6) w) (fun _ _ h => h) (fun n t w h => ?_) n t w h).mono ?_
  · rw [F45_3_step] at h
    exact vc_sound mixed (orcCons (π := [0, 0, 1, 1, 1, 0, 0, 1, 0, 0, 1, 0, 1, 1]) F45_1_ok (orcCons (π := [1, 1, 0, 0, 1, 0, 0, 1, 0, 1, 1]) F45_2_ok (orcNil F45_code))) _ _ rfl (okC_at F45_code_ok [0, 0, 1, 0, 1, 1]) _ _ _ (rsh_out h)
  · intro o t w q
    cases o with
    | normal => exact q.elim
    | exit i =>
      unfold F45_3C at q
      simp only at q
      split at q
      · rename_i hi
        rw [nbeq] at hi
        subst hi
        exact out_ok [5] q
      · exact q.elim
    | ret => exact q.elim
def F45 (x0 : Value) (x1 : Value) (w : World) (K : Value → World → Prop) : Prop :=
  rdP x0 fun p1 => rdI .u32 x1 fun n2 => ∃ k7 : Nat, F45_3 (fun y5_2 w4 => ∀ _g5 : Tm, rdC y5_2 fun l6a l6n l6c => K (.slice l6a l6n l6c) w4) k7 (.pointer p1) (.int .u32 n2) (.slice none 0 0) (.int .i64 0) w
theorem F45_step (x0 : Value) (x1 : Value) (w : World) (K : Value → World → Prop) : (F45 x0 x1 w K) = rsh [(0, (.one .ptr)), (1, (.one (.int .u32)))] (args0 #[x0, x1]) (fun t => vc Try.prog (orcOf [([0, 0, 1, 1, 1, 0, 0, 1, 0, 0, 1, 0, 1, 1], F45_1O), ([1, 1, 0, 0, 1, 0, 0, 1, 0, 1, 1], F45_2O), ([0, 1, 0, 1, 1], F45_3O)]) [] F45_code (retQ Try.prog Try.f45 K) t w) := by kernel_rfl
theorem F45_ok {x0 x1 : Value} {w : World} {K : Value → World → Prop} (h : F45 x0 x1 w K) : Calls Try.prog 45 #[x0, x1] w fun e w' => ∃ v, e = .returned v ∧ K v w' := by
  rw [F45_step] at h
  exact calls_of (c := F45_code) mixed Try.func45 rfl (nlt rfl) (vc_sound mixed (orcCons (π := [0, 0, 1, 1, 1, 0, 0, 1, 0, 0, 1, 0, 1, 1]) F45_1_ok (orcCons (π := [1, 1, 0, 0, 1, 0, 0, 1, 0, 1, 1]) F45_2_ok (orcCons (π := [0, 1, 0, 1, 1]) F45_3_ok (orcNil F45_code)))) F45_code [] rfl F45_code_ok _ _ _ (rsh_out h))

/-! slices.DeleteFunc[[][]uint32,[]uint32] -/
noncomputable def F46_code : Code := Try.f46.body.getD .skip
theorem F46_code_ok : okC Try.prog Try.f46.ntmps F46_code = true := by kernel_rfl
def F46_1C (K0 : Value → Value → World → Prop) : Post := fun o t w => match o with | .normal => False | .exit i => (match Nat.beq i 0 with | true => K0 (t 0) (t 5) w | false => False) | .ret => False
def F46_1B (R : Value → Value → Value → Value → World → Prop) (K0 : Value → Value → World → Prop) (x0 : Value) (x1 : Value) (x5 : Value) (x6 : Value) (w : World) : Prop :=
  rdC x0 fun l1a l1n l1c => rdI .i64 x5 fun n2 => rdI .i64 x6 fun n3 => br (decide ((n3 : Int) < (l1n : Int))) (ixS 1 l1a l1n n3 fun a4 => ldC a4 w fun l5a l5n l5c => callV Try.prog x1 #[(.slice l5a l5n l5c)] w (.one (.one .bool)) fun r7 w6 => ∃ b8, r7 = (.bool b8) ∧ (br (!b8) (ixS 1 l1a l1n n2 fun a9 => stc a9 (.slice l5a l5n l5c) w6 fun w10 => R (.slice l1a l1n l1c) x1 (.int .i64 (IntKind.wrap .i64 (n2 + 1))) (.int .i64 (IntKind.wrap .i64 (n3 + 1))) w10) (R (.slice l1a l1n l1c) x1 (.int .i64 n2) (.int .i64 (IntKind.wrap .i64 (n3 + 1))) w6))) (K0 (.slice l1a l1n l1c) (.int .i64 n2) w)
def F46_1 (K0 : Value → Value → World → Prop) : Nat → Value → Value → Value → Value → World → Prop
  | 0 => fun _ _ _ _ _ => False
  | n + 1 => F46_1B (F46_1 K0 n) K0
def F46_1O (Q : Post) (t : Tm) (w : World) : Prop := ∃ n, F46_1 (fun y0 y5 w => ∀ g, rsh [(0, (.one .slc)), (5, (.one (.int .i64)))] (upds g [(0, y0), (5, y5)]) fun t => Q (.exit 0) t w) n (t 0) (t 1) (t 5) (t 6) w
theorem F46_1_step (K0 : Value → Value → World → Prop) (n : Nat) (t : Tm) (w : World) : (F46_1 K0 (n + 1) (t 0) (t 1) (t 5) (t 6) w) = rsh [(0, (.one .slc)), (5, (.one (.int .i64))), (6, (.one (.int .i64)))] t (fun t => vc Try.prog (orcOf []) [0, 0, 1, 0, 1, 1, 1] (getAt F46_code [0, 0, 1, 0, 1, 1, 1]) (fun o t w => match o with | .normal => F46_1 K0 n (t 0) (t 1) (t 5) (t 6) w | .exit i => F46_1C K0 (.exit i) t w | .ret => F46_1C K0 .ret t w) t w) := by kernel_rfl
theorem F46_1_ok : ∀ Q t w, F46_1O Q t w → W Try.prog Try.f46.ntmps (getAt F46_code [0, 1, 0, 1, 1, 1]) Q t w := by
  intro Q t w ⟨n, h⟩
  refine (W_loop (P := Try.prog) (b := getAt F46_code [0, 0, 1, 0, 1, 1, 1]) (Q := F46_1C (fun y0 y5 w => ∀ g, rsh [(0, (.one .slc)), (5, (.one (.int .i64)))] (upds g [(0, y0), (5, y5)]) fun t => Q (.exit 0) t w)) (G := fun n t w => F46_1 (fun y0 y5 w => ∀ g, rsh [(0, (.one .slc)), (5, (.one (.int .i64)))] (upds g [(0, y0), (5, y5)]) fun t => Q (.exit 0) t w) n (t 0) (t 1) (t 5) (t 6) w) (fun _ _ h => h) (fun n t w h => ?_) n t w h).mono ?_
  · rw [F46_1_step] at h
    exact vc_sound mixed (orcNil F46_code) _ _ rfl (okC_at F46_code_ok [0, 0, 1, 0, 1, 1, 1]) _ _ _ (rsh_out h)
  · intro o t w q
    cases o with
    | normal => exact q.elim
    | exit i =>
      unfold F46_1C at q
      simp only at q
      split at q
      · rename_i hi
        rw [nbeq] at hi
        subst hi
        exact out_ok [0, 5] q
      · exact q.elim
    | ret => exact q.elim
def F46 (x0 : Value) (x1 : Value) (w : World) (K : Value → World → Prop) : Prop :=
  rdC x0 fun l1a l1n l1c => Calls Try.prog 52 #[(.slice l1a l1n l1c), x1] w fun e3 w2 => ∃ n4, e3 = .returned (.int .i64 n4) ∧ (br (n4 == (-1)) (K (.slice l1a l1n l1c) w2) (∃ k13 : Nat, F46_1 (fun y0_4 y5_4 w6 => ∀ _g7 : Tm, rdC y0_4 fun l8a l8n l8c => rdI .i64 y5_4 fun n9 => slS 1 l8a l8n l8c (some (.int .i64 n9)) none fun l10a l10n l10c => ∃ w11, Sem.run Try.prog (Builtin.clear_ #[68] 0 #[(.slice l10a l10n l10c)]) w6 = .ok (.tuple #[]) w11 ∧ (slS 1 l8a l8n l8c none (some (.int .i64 n9)) fun l12a l12n l12c => K (.slice l12a l12n l12c) w11)) k13 (.slice l1a l1n l1c) x1 (.int .i64 n4) (.int .i64 (IntKind.wrap .i64 (n4 + 1))) w2))
theorem F46_step (x0 : Value) (x1 : Value) (w : World) (K : Value → World → Prop) : (F46 x0 x1 w K) = rsh [(0, (.one .slc))] (args0 #[x0, x1]) (fun t => vc Try.prog (orcOf [([0, 1, 0, 1, 1, 1], F46_1O)]) [] F46_code (retQ Try.prog Try.f46 K) t w) := by kernel_rfl
theorem F46_ok {x0 x1 : Value} {w : World} {K : Value → World → Prop} (h : F46 x0 x1 w K) : Calls Try.prog 46 #[x0, x1] w fun e w' => ∃ v, e = .returned v ∧ K v w' := by
  rw [F46_step] at h
  exact calls_of (c := F46_code) mixed Try.func46 rfl (nlt rfl) (vc_sound mixed (orcCons (π := [0, 1, 0, 1, 1, 1]) F46_1_ok (orcNil F46_code)) F46_code [] rfl F46_code_ok _ _ _ (rsh_out h))

/-! (*ropewalk/reasm.Table).Drop$1 -/
noncomputable def F47_code : Code := Try.f47.body.getD .skip
theorem F47_code_ok : okC Try.prog Try.f47.ntmps F47_code = true := by kernel_rfl
def F47 (x0 : Value) (x1 : Value) (w : World) (K : Value → World → Prop) : Prop :=
  rdC x0 fun l1a l1n l1c => rdA x1 fun a2 => ldI .u32 a2 w fun n3 => Calls Try.prog 48 #[(.slice l1a l1n l1c), (.int .u32 n3)] w fun e5 w4 => ∃ b6, e5 = .returned (.bool b6) ∧ (K (.bool b6) w4)
theorem F47_step (x0 : Value) (x1 : Value) (w : World) (K : Value → World → Prop) : (F47 x0 x1 w K) = rsh [(0, (.one .slc)), (1, (.one .adr))] (args0 #[x0, x1]) (fun t => vc Try.prog (orcOf []) [] F47_code (retQ Try.prog Try.f47 K) t w) := by kernel_rfl
theorem F47_ok {x0 x1 : Value} {w : World} {K : Value → World → Prop} (h : F47 x0 x1 w K) : Calls Try.prog 47 #[x0, x1] w fun e w' => ∃ v, e = .returned v ∧ K v w' := by
  rw [F47_step] at h
  exact calls_of (c := F47_code) mixed Try.func47 rfl (nlt rfl) (vc_sound mixed (orcNil F47_code) F47_code [] rfl F47_code_ok _ _ _ (rsh_out h))

/-! slices.Contains[[]uint32,uint32] -/
noncomputable def F48_code : Code := Try.f48.body.getD .skip
theorem F48_code_ok : okC Try.prog Try.f48.ntmps F48_code = true := by kernel_rfl
def F48 (x0 : Value) (x1 : Value) (w : World) (K : Value → World → Prop) : Prop :=
  rdC x0 fun l1a l1n l1c => rdI .u32 x1 fun n2 => Calls Try.prog 69 #[(.slice l1a l1n l1c), (.int .u32 n2)] w fun e4 w3 => ∃ n5, e4 = .returned (.int .i64 n5) ∧ (K (.bool (decide ((n5 : Int) ≥ 0))) w3)
theorem F48_step (x0 : Value) (x1 : Value) (w : World) (K : Value → World → Prop) : (F48 x0 x1 w K) = rsh [(0, (.one .slc)), (1, (.one (.int .u32)))] (args0 #[x0, x1]) (fun t => vc Try.prog (orcOf []) [] F48_code (retQ Try.prog Try.f48 K) t w) := by kernel_rfl
theorem F48_ok {x0 x1 : Value} {w : World} {K : Value → World → Prop} (h : F48 x0 x1 w K) : Calls Try.prog 48 #[x0, x1] w fun e w' => ∃ v, e = .returned v ∧ K v w' := by
  rw [F48_step] at h
  exact calls_of (c := F48_code) mixed Try.func48 rfl (nlt rfl) (vc_sound mixed (orcNil F48_code) F48_code [] rfl F48_code_ok _ _ _ (rsh_out h))

/-! slices.AppendSeq[[]uint32,uint32] -/
noncomputable def F49_code : Code := Try.f49.body.getD .skip
theorem F49_code_ok : okC Try.prog Try.f49.ntmps F49_code = true := by kernel_rfl
def F49_1C (Kr : Value → World → Prop) : Post := fun o t w => match o with | .normal => False | .exit _ => (False) | .ret => Kr (t 4) w
def F49_1r (Kn : World → Prop) (_ : Code → World → Prop) (x2 : Value) (x7 : Value) (w wb : World) : Prop :=
  rdA x2 fun a1 => rdI .u32 x7 fun n2 => (w = w ∧ (ldC a1 wb fun l3a l3n l3c => alc (.cells #[(.int .u32 n2)] 30) wb fun b4 w5 => ∃ l6a l6n l6c w7, Sem.run Try.prog (Builtin.append_ #[33, 33] 33 #[(.slice l3a l3n l3c), (.slice (some (Addr.mk b4 0 none)) 1 1)]) w5 = .ok (.slice l6a l6n l6c) w7 ∧ (stc a1 (.slice l6a l6n l6c) w7 fun w8 => Kn w8)))
theorem F49_1r_step (Kn : World → Prop) (Kx : Code → World → Prop) (t : Tm) (w wb : World) : (F49_1r Kn Kx (t 2) (t 7) w wb) = rsh [(2, (.one .adr)), (7, (.one (.int .u32)))] t (fun t => vcR Try.prog (orcOf []) [0, 1, 0, 1] (getAt F49_code [0, 1, 0, 1]) Kn Kx t w wb) := by kernel_rfl
def F49_1rO (t : Tm) (w wb : World) (Kn : World → Prop) (Kx : Code → World → Prop) : Prop := F49_1r Kn Kx (t 2) (t 7) w wb
def F49_1 (Kr : Value → World → Prop) (x1 : Value) (x2 : Value) (w : World) : Prop :=
  rdA x2 fun a1 => rgf Try.prog x1 (fun vs2 w3 w4 Kn5 Kx6 => ∃ v7, vs2 = #[v7] ∧ (F49_1r Kn5 Kx6 (.pointer (some a1)) v7 w3 w4)) w (fun D8 w9 => ldC a1 w9 fun l10a l10n l10c => w9.heap[D8]? = some (.deferred (some [])) ∧ (Kr (.slice l10a l10n l10c) (w9.putObj D8 (.deferred none)))) (fun c11 D12 w13 => jmp c11 0 (False) (ldC a1 w13 fun l14a l14n l14c => w13.heap[D12]? = some (.deferred (some [])) ∧ (Kr (.slice l14a l14n l14c) (w13.putObj D12 (.deferred none)))))
theorem F49_1_step (Kr : Value → World → Prop) (t : Tm) (w : World) : (F49_1 Kr (t 1) (t 2) w) = rsh [(2, (.one .adr))] t (fun t => vcRG Try.prog (orcOf []) [1] F49_1rO (getAt F49_code [1]) (F49_1C Kr) t w) := by kernel_rfl
def F49_1O (Q : Post) (t : Tm) (w : World) : Prop := F49_1 (fun y4 w => ∀ g, rsh [(4, (.one .slc))] (upds g [(4, y4)]) fun t => Q .ret t w) (t 1) (t 2) w
theorem F49_1_ok : ∀ Q t w, F49_1O Q t w → Wt Try.prog Try.f49.ntmps (getAt F49_code [1]) Q t w := by
  intro Q t w h
  unfold F49_1O at h
  rw [F49_1_step] at h
  refine (vcRG_sound mixed (orcNil F49_code) (ρ := [0, 1, 0, 1]) rfl (okC_at F49_code_ok [1]) rfl (fun g ps a0 bd hg hk t w wb Kn Kx h => ?_) (rsh_out h)).mono ?_
  · unfold F49_1rO at h
    rw [F49_1r_step] at h
    exact vcR_sound mixed (orcNil F49_code) hg hk (rsh_out h)
  · intro o t w q
    cases o with
    | normal => exact q.elim
    | exit i => exact q.elim
    | ret => exact out_ok [4] q
def F49 (x0 : Value) (x1 : Value) (w : World) (K : Value → World → Prop) : Prop :=
  rdC x0 fun l1a l1n l1c => alc (.cells #[(.slice l1a l1n l1c)] 33) w fun b2 w3 => F49_1 (fun y4_3 w5 => ∀ _g6 : Tm, rdC y4_3 fun l7a l7n l7c => K (.slice l7a l7n l7c) w5) x1 (.pointer (some (Addr.mk b2 0 none))) w3
theorem F49_step (x0 : Value) (x1 : Value) (w : World) (K : Value → World → Prop) : (F49 x0 x1 w K) = rsh [(0, (.one .slc))] (args0 #[x0, x1]) (fun t => vcS Try.prog (orcOf []) F49_1O 1 [] F49_code (retQ Try.prog Try.f49 K) t w) := by kernel_rfl
theorem F49_ok {x0 x1 : Value} {w : World} {K : Value → World → Prop} (h : F49 x0 x1 w K) : Calls Try.prog 49 #[x0, x1] w fun e w' => ∃ v, e = .returned v ∧ K v w' := by
  rw [F49_step] at h
  exact calls_ofT (c := F49_code) Try.func49 rfl (nlt rfl) (vcS_sound mixed (orcNil F49_code) (fun _ _ _ h => h) 1 [] F49_code rfl F49_code_ok (fun t w h => F49_1_ok _ t w h) _ _ (rsh_out h))

/-! (*ropewalk/reasm.store).row$1 -/
noncomputable def F50_code : Code := Try.f50.body.getD .skip
theorem F50_code_ok : okC Try.prog Try.f50.ntmps F50_code = true := by kernel_rfl
def F50_1C (K0 : Value → Value → Value → World → Prop) : Post := fun o t w => match o with | .normal => False | .exit i => (match Nat.beq i 0 with | true => K0 (t 0) (t 1) (t 2) w | false => False) | .ret => False
def F50_1B (R : Value → Value → Value → World → Prop) (K0 : Value → Value → Value → World → Prop) (x0 : Value) (x1 : Value) (x2 : Value) (w : World) : Prop :=
  rdA x1 fun a1 => rdA x2 fun a2 => ldP a1 w fun p3 => ldI .u32 a2 w fun n4 => ldI .u32 a2 w fun n5 => Calls Try.prog 51 #[(.pointer p3), (.int .u32 (IntKind.wrap .u32 (n4 - 1))), (.int .u32 n5)] w fun e7 w6 => ∃ b8, e7 = .returned (.bool b8) ∧ (br b8 (ldI .u32 a2 w6 fun n9 => stc a2 (.int .u32 (IntKind.wrap .u32 (n9 - 1))) w6 fun w10 => R x0 (.pointer (some a1)) (.pointer (some a2)) w10) (K0 x0 (.pointer (some a1)) (.pointer (some a2)) w6))
def F50_1 (K0 : Value → Value → Value → World → Prop) : Nat → Value → Value → Value → World → Prop
  | 0 => fun _ _ _ _ => False
  | n + 1 => F50_1B (F50_1 K0 n) K0
def F50_1O (Q : Post) (t : Tm) (w : World) : Prop := ∃ n, F50_1 (fun y0 y1 y2 w => ∀ g, rsh [(1, (.one .adr)), (2, (.one .adr))] (upds g [(0, y0), (1, y1), (2, y2)]) fun t => Q (.exit 0) t w) n (t 0) (t 1) (t 2) w
theorem F50_1_step (K0 : Value → Value → Value → World → Prop) (n : Nat) (t : Tm) (w : World) : (F50_1 K0 (n + 1) (t 0) (t 1) (t 2) w) = rsh [(1, (.one .adr)), (2, (.one .adr))] t (fun t => vc Try.prog (orcOf []) [0, 0, 0] (getAt F50_code [0, 0, 0]) (fun o t w => match o with | .normal => F50_1 K0 n (t 0) (t 1) (t 2) w | .exit i => F50_1C K0 (.exit i) t w | .ret => F50_1C K0 .ret t w) t w) := by kernel_rfl
theorem F50_1_ok : ∀ Q t w, F50_1O Q t w → W Try.prog Try.f50.ntmps (getAt F50_code [0, 0]) Q t w := by
  intro Q t w ⟨n, h⟩
  refine (W_loop (P := Try.prog) (b := getAt F50_code [0, 0, 0]) (Q := F50_1C (fun y0 y1 y2 w => ∀ g, rsh [(1, (.one .adr)), (2, (.one .adr))] (upds g [(0, y0), (1, y1), (2, y2)]) fun t => Q (.exit 0) t w)) (G := fun n t w => F50_1 (fun y0 y1 y2 w => ∀ g, rsh [(1, (.one .adr)), (2, (.one .adr))] (upds g [(0, y0), (1, y1), (2, y2)]) fun t => Q (.exit 0) t w) n (t 0) (t 1) (t 2) w) (fun _ _ h => h) (fun n t w h => ?_) n t w h).mono ?_
  · rw [F50_1_step] at h
    exact vc_sound mixed (orcNil F50_code) _ _ rfl (okC_at F50_code_ok [0, 0, 0]) _ _ _ (rsh_out h)
  · intro o t w q
    cases o with
    | normal => exact q.elim
    | exit i =>
      unfold F50_1C at q
      simp only at q
      split at q
      · rename_i hi
        rw [nbeq] at hi
        subst hi
        exact out_ok [0, 1, 2] q
      · exact q.elim
    | ret => exact q.elim
def F50_2C (K2 : World → Prop) : Post := fun o _ w => match o with | .normal => False | .exit i => (match Nat.beq i 2 with | true => K2  w | false => False) | .ret => False
def F50_2B (R : Value → Value → Value → World → Prop) (K2 : World → Prop) (x0 : Value) (x1 : Value) (x2 : Value) (w : World) : Prop :=
  rdA x1 fun a1 => rdA x2 fun a2 => ldI .u32 a2 w fun n3 => callV Try.prog x0 #[(.int .u32 n3)] w (.one (.one .bool)) fun r5 w4 => ∃ b6, r5 = (.bool b6) ∧ (br b6 (ldP a1 w4 fun p7 => ldI .u32 a2 w4 fun n8 => ldI .u32 a2 w4 fun n9 => Calls Try.prog 51 #[(.pointer p7), (.int .u32 n8), (.int .u32 (IntKind.wrap .u32 (n9 + 1)))] w4 fun e11 w10 => ∃ b12, e11 = .returned (.bool b12) ∧ (br b12 (ldI .u32 a2 w10 fun n13 => stc a2 (.int .u32 (IntKind.wrap .u32 (n13 + 1))) w10 fun w14 => R x0 (.pointer (some a1)) (.pointer (some a2)) w14) (K2 w10))) (K2 w4))
def F50_2 (K2 : World → Prop) : Nat → Value → Value → Value → World → Prop
  | 0 => fun _ _ _ _ => False
  | n + 1 => F50_2B (F50_2 K2 n) K2
def F50_2O (Q : Post) (t : Tm) (w : World) : Prop := ∃ n, F50_2 (fun w => ∀ g, rsh [] (upds g []) fun t => Q (.exit 2) t w) n (t 0) (t 1) (t 2) w
theorem F50_2_step (K2 : World → Prop) (n : Nat) (t : Tm) (w : World) : (F50_2 K2 (n + 1) (t 0) (t 1) (t 2) w) = rsh [(1, (.one .adr)), (2, (.one .adr))] t (fun t => vc Try.prog (orcOf []) [0, 0, 1] (getAt F50_code [0, 0, 1]) (fun o t w => match o with | .normal => F50_2 K2 n (t 0) (t 1) (t 2) w | .exit i => F50_2C K2 (.exit i) t w | .ret => F50_2C K2 .ret t w) t w) := by kernel_rfl
theorem F50_2_ok : ∀ Q t w, F50_2O Q t w → W Try.prog Try.f50.ntmps (getAt F50_code [0, 1]) Q t w := by
  intro Q t w ⟨n, h⟩
  refine (W_loop (P := Try.prog) (b := getAt F50_code [0, 0, 1]) (Q := F50_2C (fun w => ∀ g, rsh [] (upds g []) fun t => Q (.exit 2) t w)) (G := fun n t w => F50_2 (fun w => ∀ g, rsh [] (upds g []) fun t => Q (.exit 2) t w) n (t 0) (t 1) (t 2) w) (fun _ _ h => h) (fun n t w h => ?_) n t w h).mono ?_
  · rw [F50_2_step] at h
    exact vc_sound mixed (orcNil F50_code) _ _ rfl (okC_at F50_code_ok [0, 0, 1]) _ _ _ (rsh_out h)
  · intro o t w q
    cases o with
    | normal => exact q.elim
    | exit i =>
      unfold F50_2C at q
      simp only at q
      split at q
      · rename_i hi
        rw [nbeq] at hi
        subst hi
        exact out_ok [] q
      · exact q.elim
    | ret => exact q.elim
def F50 (x0 : Value) (x1 : Value) (x2 : Value) (w : World) (K : Value → World → Prop) : Prop :=
  rdA x1 fun a1 => rdA x2 fun a2 => ∃ k12 : Nat, F50_1 (fun y0_2 y1_2 y2_2 w4 => ∀ _g5 : Tm, rdA y1_2 fun a6 => rdA y2_2 fun a7 => ∃ k11 : Nat, F50_2 (fun w9 => ∀ _g10 : Tm, K (.tuple #[]) w9) k11 y0_2 (.pointer (some a6)) (.pointer (some a7)) w4) k12 x0 (.pointer (some a1)) (.pointer (some a2)) w
theorem F50_step (x0 : Value) (x1 : Value) (x2 : Value) (w : World) (K : Value → World → Prop) : (F50 x0 x1 x2 w K) = rsh [(1, (.one .adr)), (2, (.one .adr))] (args0 #[x0, x1, x2]) (fun t => vc Try.prog (orcOf [([0, 0], F50_1O), ([0, 1], F50_2O)]) [] F50_code (retQ Try.prog Try.f50 K) t w) := by kernel_rfl
theorem F50_ok {x0 x1 x2 : Value} {w : World} {K : Value → World → Prop} (h : F50 x0 x1 x2 w K) : Calls Try.prog 50 #[x0, x1, x2] w fun e w' => ∃ v, e = .returned v ∧ K v w' := by
  rw [F50_step] at h
  exact calls_of (c := F50_code) mixed Try.func50 rfl (nlt rfl) (vc_sound mixed (orcCons (π := [0, 0]) F50_1_ok (orcCons (π := [0, 1]) F50_2_ok (orcNil F50_code))) F50_code [] rfl F50_code_ok _ _ _ (rsh_out h))

/-! (*ropewalk/reasm.store).fits -/
noncomputable def F51_code : Code := Try.f51.body.getD .skip
theorem F51_code_ok : okC Try.prog Try.f51.ntmps F51_code = true := by kernel_rfl
def F51 (x0 : Value) (x1 : Value) (x2 : Value) (w : World) (K : Value → World → Prop) : Prop :=
  rdP x0 fun p1 => rdI .u32 x1 fun n2 => rdI .u32 x2 fun n3 => nn p1 fun a4 => ldM (a4.add 0) w fun m5 => exR35 fun s6 => ∃ b7, lookF Try.prog 30 36 (.map m5) (.int .u32 n2) true w = some (.tuple #[s6.v, (.bool b7)]) ∧ (alc (.cells ((R35.mk 0 0 0 0 0 0 0 0 0 0 none 0 0 none 0 0 none 0 0 none 0 0 none 0 0)).c 36) w fun b8 w9 => stcL (Addr.mk b8 0 none) 0 s6.l w9 fun w10 => nn p1 fun a11 => ldM (a11.add 0) w10 fun m12 => exR35 fun s13 => ∃ b14, lookF Try.prog 30 36 (.map m12) (.int .u32 n3) true w10 = some (.tuple #[s13.v, (.bool b14)]) ∧ (alc (.cells ((R35.mk 0 0 0 0 0 0 0 0 0 0 none 0 0 none 0 0 none 0 0 none 0 0 none 0 0)).c 36) w10 fun b15 w16 => stcL (Addr.mk b15 0 none) 0 s13.l w16 fun w17 => drw w17 fun w18 => ∃ w19 : World, Pres w19 w18 ∧ (br b7 (br b14 (ldR35 (Addr.mk b15 0 none) w18 fun s20 => Calls Try.prog 30 #[s20.v, (.int .u8 2)] w18 fun e22 w21 => ∃ b23, e22 = .returned (.bool b23) ∧ (Pres w19 w21 ∧ (br (!b23) (ldR35 (Addr.mk b8 0 none) w21 fun s24 => Calls Try.prog 30 #[s24.v, (.int .u8 1)] w21 fun e26 w25 => ∃ b27, e26 = .returned (.bool b27) ∧ (Pres w19 w25 ∧ (br (!b27) (ldI .u16 ((Addr.mk b8 0 none).add 3) w25 fun n28 => ldI .u16 ((Addr.mk b15 0 none).add 3) w25 fun n29 => br (n28 == n29) (ldI .u16 ((Addr.mk b8 0 none).add 4) w25 fun n30 => ldI .u16 ((Addr.mk b15 0 none).add 4) w25 fun n31 => br (n30 == n31) (ldR35 (Addr.mk b8 0 none) w25 fun s32 => ldR35 (Addr.mk b15 0 none) w19 fun s33 => Calls Try.prog 30 #[s32.v, (.int .u8 4)] w25 fun e35 w34 => ∃ b36, e35 = .returned (.bool b36) ∧ (Pres w19 w34 ∧ (Calls Try.prog 30 #[s33.v, (.int .u8 4)] w34 fun e38 w37 => ∃ b39, e38 = .returned (.bool b39) ∧ (K (.bool (b36 == b39)) w37)))) (K (.bool false) w25)) (K (.bool false) w25)) (K (.bool false) w25)))) (K (.bool false) w21)))) (K (.bool false) w18)) (K (.bool false) w18))))
theorem F51_step (x0 : Value) (x1 : Value) (x2 : Value) (w : World) (K : Value → World → Prop) : (F51 x0 x1 x2 w K) = rsh [(0, (.one .ptr)), (1, (.one (.int .u32))), (2, (.one (.int .u32)))] (args0 #[x0, x1, x2]) (fun t => vc Try.prog (orcOf []) [] F51_code (retQ Try.prog Try.f51 K) t w) := by kernel_rfl
theorem F51_ok {x0 x1 x2 : Value} {w : World} {K : Value → World → Prop} (h : F51 x0 x1 x2 w K) : Calls Try.prog 51 #[x0, x1, x2] w fun e w' => ∃ v, e = .returned v ∧ K v w' := by
  rw [F51_step] at h
  exact calls_of (c := F51_code) mixed Try.func51 rfl (nlt rfl) (vc_sound mixed (orcNil F51_code) F51_code [] rfl F51_code_ok _ _ _ (rsh_out h))

/-! slices.IndexFunc[[][]uint32,[]uint32] -/
noncomputable def F52_code : Code := Try.f52.body.getD .skip
theorem F52_code_ok : okC Try.prog Try.f52.ntmps F52_code = true := by kernel_rfl
def F52_1C (K0 : World → Prop) (Kr : Value → World → Prop) : Post := fun o t w => match o with | .normal => False | .exit i => (match Nat.beq i 0 with | true => K0  w | false => False) | .ret => Kr (t 4) w
def F52_1B (R : Value → Value → Value → Value → World → Prop) (K0 : World → Prop) (Kr : Value → World → Prop) (x0 : Value) (x1 : Value) (x7 : Value) (x8 : Value) (w : World) : Prop :=
  rdC x0 fun l1a l1n l1c => rdI .i64 x7 fun n2 => rdI .i64 x8 fun n3 => br (decide ((n3 : Int) < n2)) (ixS 1 l1a l1n n3 fun a4 => ldC a4 w fun l5a l5n l5c => callV Try.prog x1 #[(.slice l5a l5n l5c)] w (.one (.one .bool)) fun r7 w6 => ∃ b8, r7 = (.bool b8) ∧ (br b8 (Kr (.int .i64 n3) w6) (R (.slice l1a l1n l1c) x1 (.int .i64 n2) (.int .i64 (IntKind.wrap .i64 (n3 + 1))) w6))) (K0 w)
def F52_1 (K0 : World → Prop) (Kr : Value → World → Prop) : Nat → Value → Value → Value → Value → World → Prop
  | 0 => fun _ _ _ _ _ => False
  | n + 1 => F52_1B (F52_1 K0 Kr n) K0 Kr
def F52_1O (Q : Post) (t : Tm) (w : World) : Prop := ∃ n, F52_1 (fun w => ∀ g, rsh [] (upds g []) fun t => Q (.exit 0) t w) (fun y4 w => ∀ g, rsh [(4, (.one (.int .i64)))] (upds g [(4, y4)]) fun t => Q .ret t w) n (t 0) (t 1) (t 7) (t 8) w
theorem F52_1_step (K0 : World → Prop) (Kr : Value → World → Prop) (n : Nat) (t : Tm) (w : World) : (F52_1 K0 Kr (n + 1) (t 0) (t 1) (t 7) (t 8) w) = rsh [(0, (.one .slc)), (7, (.one (.int .i64))), (8, (.one (.int .i64)))] t (fun t => vc Try.prog (orcOf []) [0, 0, 1, 0, 1] (getAt F52_code [0, 0, 1, 0, 1]) (fun o t w => match o with | .normal => F52_1 K0 Kr n (t 0) (t 1) (t 7) (t 8) w | .exit i => F52_1C K0 Kr (.exit i) t w | .ret => F52_1C K0 Kr .ret t w) t w) := by kernel_rfl
theorem F52_1_ok : ∀ Q t w, F52_1O Q t w → W Try.prog Try.f52.ntmps (getAt F52_code [0, 1, 0, 1]) Q t w := by
  intro Q t w ⟨n, h⟩
  refine (W_loop (P := Try.prog) (b := getAt F52_code [0, 0, 1, 0, 1]) (Q := F52_1C (fun w => ∀ g, rsh [] (upds g []) fun t => Q (.exit 0) t w) (fun y4 w => ∀ g, rsh [(4, (.one (.int .i64)))] (upds g [(4, y4)]) fun t => Q .ret t w)) (G := fun n t w => F52_1 (fun w => ∀ g, rsh [] (upds g []) fun t => Q (.exit 0) t w) (fun y4 w => ∀ g, rsh [(4, (.one (.int .i64)))] (upds g [(4, y4)]) fun t => Q .ret t w) n (t 0) (t 1) (t 7) (t 8) w) (fun _ _ h => h) (fun n t w h => ?_) n t w h).mono ?_
  · rw [F52_1_step] at h
    exact vc_sound mixed (orcNil F52_code) _ _ rfl (okC_at F52_code_ok [0, 0, 1, 0, 1]) _ _ _ (rsh_out h)
  · intro o t w q
    cases o with
    | normal => exact q.elim
    | exit i =>
      unfold F52_1C at q
      simp only at q
      split at q
      · rename_i hi
        rw [nbeq] at hi
        subst hi
        exact out_ok [] q
      · exact q.elim
    | ret => exact out_ok [4] q
def F52 (x0 : Value) (x1 : Value) (w : World) (K : Value → World → Prop) : Prop :=
  rdC x0 fun l1a l1n l1c => ∃ k9 : Nat, F52_1 (fun w3 => ∀ _g4 : Tm, K (.int .i64 (-1)) w3) (fun y4_4 w6 => ∀ _g7 : Tm, rdI .i64 y4_4 fun n8 => K (.int .i64 n8) w6) k9 (.slice l1a l1n l1c) x1 (.int .i64 (l1n : Int)) (.int .i64 0) w
theorem F52_step (x0 : Value) (x1 : Value) (w : World) (K : Value → World → Prop) : (F52 x0 x1 w K) = rsh [(0, (.one .slc))] (args0 #[x0, x1]) (fun t => vc Try.prog (orcOf [([0, 1, 0, 1], F52_1O)]) [] F52_code (retQ Try.prog Try.f52 K) t w) := by kernel_rfl
theorem F52_ok {x0 x1 : Value} {w : World} {K : Value → World → Prop} (h : F52 x0 x1 w K) : Calls Try.prog 52 #[x0, x1] w fun e w' => ∃ v, e = .returned v ∧ K v w' := by
  rw [F52_step] at h
  exact calls_of (c := F52_code) mixed Try.func52 rfl (nlt rfl) (vc_sound mixed (orcCons (π := [0, 1, 0, 1]) F52_1_ok (orcNil F52_code)) F52_code [] rfl F52_code_ok _ _ _ (rsh_out h))

/-! (*ropewalk/reasm.Table).turn$1 -/
noncomputable def F53_code : Code := Try.f53.body.getD .skip
theorem F53_code_ok : okC Try.prog Try.f53.ntmps F53_code = true := by kernel_rfl
def F53 (x0 : Value) (x1 : Value) (x2 : Value) (w : World) (K : Value → World → Prop) : Prop :=
  rdC x0 fun l1a l1n _ => rdA x1 fun a2 => rdA x2 fun a3 => drw w fun w4 => ldP a2 w4 fun p5 => nn p5 fun a6 => ldM ((a6.add 0).add 0) w4 fun m7 => ixS 1 l1a l1n 0 fun a8 => ldI .u32 a8 w4 fun n9 => exR35 fun s10 => lookF Try.prog 30 36 (.map m7) (.int .u32 n9) false w4 = some s10.v ∧ (alc (.cells ((R35.mk 0 0 0 0 0 0 0 0 0 0 none 0 0 none 0 0 none 0 0 none 0 0 none 0 0)).c 36) w4 fun b11 w12 => Pres w4 w12 ∧ (stcL (Addr.mk b11 0 none) 0 s10.l w12 fun w13 => drw w13 fun w14 => ldI .u16 ((Addr.mk b11 0 none).add 3) w14 fun n15 => ldI .u16 a3 w14 fun n16 => br (n15 == n16) (ldI .u16 ((Addr.mk b11 0 none).add 4) w14 fun n17 => ldP a2 w14 fun p18 => nn p18 fun a19 => ldC (a19.add 3) w14 fun l20a l20n _ => ldI .u16 a3 w14 fun n21 => ixS 1 l20a l20n n21 fun a22 => ldI .u16 a22 w14 fun n23 => K (.bool (n17 == n23)) w14) (K (.bool false) w14)))
theorem F53_step (x0 : Value) (x1 : Value) (x2 : Value) (w : World) (K : Value → World → Prop) : (F53 x0 x1 x2 w K) = rsh [(0, (.one .slc)), (1, (.one .adr)), (2, (.one .adr))] (args0 #[x0, x1, x2]) (fun t => vc Try.prog (orcOf []) [] F53_code (retQ Try.prog Try.f53 K) t w) := by kernel_rfl
theorem F53_ok {x0 x1 x2 : Value} {w : World} {K : Value → World → Prop} (h : F53 x0 x1 x2 w K) : Calls Try.prog 53 #[x0, x1, x2] w fun e w' => ∃ v, e = .returned v ∧ K v w' := by
  rw [F53_step] at h
  exact calls_of (c := F53_code) mixed Try.func53 rfl (nlt rfl) (vc_sound mixed (orcNil F53_code) F53_code [] rfl F53_code_ok _ _ _ (rsh_out h))

/-! slices.Delete[[][]uint32,[]uint32] -/
noncomputable def F54_code : Code := Try.f54.body.getD .skip
theorem F54_code_ok : okC Try.prog Try.f54.ntmps F54_code = true := by kernel_rfl
def F54 (x0 : Value) (x1 : Value) (x2 : Value) (w : World) (K : Value → World → Prop) : Prop :=
  rdC x0 fun l1a l1n l1c => rdI .i64 x1 fun n2 => rdI .i64 x2 fun n3 => ∃ l4a l4n l4c, ∃ w5, Sem.run Try.prog (Instr.sliceAt 68 (.slice l1a l1n l1c) (some (.int .i64 n2)) (some (.int .i64 n3)) (some (.int .i64 (l1n : Int)))) w = .ok (.slice l4a l4n l4c) w5 ∧ (br (n2 == n3) (K (.slice l1a l1n l1c) w5) (drw w5 fun w6 => slS 1 l1a l1n l1c none (some (.int .i64 n2)) fun l7a l7n l7c => slS 1 l1a l1n l1c (some (.int .i64 n3)) none fun l8a l8n l8c => ∃ l9a l9n l9c w10, Sem.run Try.prog (Builtin.append_ #[68, 68] 68 #[(.slice l7a l7n l7c), (.slice l8a l8n l8c)]) w6 = .ok (.slice l9a l9n l9c) w10 ∧ (slS 1 l9a l9n l9c (some (.int .i64 (l9n : Int))) (some (.int .i64 (l1n : Int))) fun l11a l11n l11c => ∃ w12, Sem.run Try.prog (Builtin.clear_ #[68] 0 #[(.slice l11a l11n l11c)]) w10 = .ok (.tuple #[]) w12 ∧ (K (.slice l9a l9n l9c) w12))))
theorem F54_step (x0 : Value) (x1 : Value) (x2 : Value) (w : World) (K : Value → World → Prop) : (F54 x0 x1 x2 w K) = rsh [(0, (.one .slc)), (1, (.one (.int .i64))), (2, (.one (.int .i64)))] (args0 #[x0, x1, x2]) (fun t => vc Try.prog (orcOf []) [] F54_code (retQ Try.prog Try.f54 K) t w) := by kernel_rfl
theorem F54_ok {x0 x1 x2 : Value} {w : World} {K : Value → World → Prop} (h : F54 x0 x1 x2 w K) : Calls Try.prog 54 #[x0, x1, x2] w fun e w' => ∃ v, e = .returned v ∧ K v w' := by
  rw [F54_step] at h
  exact calls_of (c := F54_code) mixed Try.func54 rfl (nlt rfl) (vc_sound mixed (orcNil F54_code) F54_code [] rfl F54_code_ok _ _ _ (rsh_out h))

/-! ropewalk/serial.off[uint32] -/
noncomputable def F55_code : Code := Try.f55.body.getD .skip
theorem F55_code_ok : okC Try.prog Try.f55.ntmps F55_code = true := by kernel_rfl
def F55 (x0 : Value) (x1 : Value) (w : World) (K : Value → World → Prop) : Prop :=
  rdI .u32 x0 fun n1 => rdI .u32 x1 fun n2 => br (decide (((IntKind.wrap .i64 ((IntKind.wrap .u32 (n2 - n1)))) : Int) ≥ (IntKind.wrap .i64 ((IntKind.wrap .i64 ((IntKind.wrap .u32 (Int.tdiv (bitI .xor .u32 (if IntKind.signed .u32 then -1 else IntKind.max .u32) (IntKind.wrap .u32 (0))) 2)))) + 1)))) (K (.int .i64 (IntKind.wrap .i64 ((IntKind.wrap .i64 ((IntKind.wrap .u32 (n2 - n1)))) - (IntKind.wrap .i64 (2 * (IntKind.wrap .i64 ((IntKind.wrap .i64 ((IntKind.wrap .u32 (Int.tdiv (bitI .xor .u32 (if IntKind.signed .u32 then -1 else IntKind.max .u32) (IntKind.wrap .u32 (0))) 2)))) + 1))))))) w) (K (.int .i64 (IntKind.wrap .i64 ((IntKind.wrap .u32 (n2 - n1))))) w)
theorem F55_step (x0 : Value) (x1 : Value) (w : World) (K : Value → World → Prop) : (F55 x0 x1 w K) = rsh [(0, (.one (.int .u32))), (1, (.one (.int .u32)))] (args0 #[x0, x1]) (fun t => vc Try.prog (orcOf []) [] F55_code (retQ Try.prog Try.f55 K) t w) := by kernel_rfl
theorem F55_ok {x0 x1 : Value} {w : World} {K : Value → World → Prop} (h : F55 x0 x1 w K) : Calls Try.prog 55 #[x0, x1] w fun e w' => ∃ v, e = .returned v ∧ K v w' := by
  rw [F55_step] at h
  exact calls_of (c := F55_code) mixed Try.func55 rfl (nlt rfl) (vc_sound mixed (orcNil F55_code) F55_code [] rfl F55_code_ok _ _ _ (rsh_out h))

/-! cmp.isNaN[int] -/
noncomputable def F58_code : Code := Try.f58.body.getD .skip
theorem F58_code_ok : okC Try.prog Try.f58.ntmps F58_code = true := by kernel_rfl
def F58 (x0 : Value) (w : World) (K : Value → World → Prop) : Prop :=
  rdI .i64 x0 fun n1 => K (.bool (n1 != n1)) w
theorem F58_step (x0 : Value) (w : World) (K : Value → World → Prop) : (F58 x0 w K) = rsh [(0, (.one (.int .i64)))] (args0 #[x0]) (fun t => vc Try.prog (orcOf []) [] F58_code (retQ Try.prog Try.f58 K) t w) := by kernel_rfl
theorem F58_ok {x0 : Value} {w : World} {K : Value → World → Prop} (h : F58 x0 w K) : Calls Try.prog 58 #[x0] w fun e w' => ∃ v, e = .returned v ∧ K v w' := by
  rw [F58_step] at h
  exact calls_of (c := F58_code) mixed Try.func58 rfl (nlt rfl) (vc_sound mixed (orcNil F58_code) F58_code [] rfl F58_code_ok _ _ _ (rsh_out h))

/-! (*ropewalk/ropewalkref20.Table).at -/
noncomputable def F60_code : Code := Try.f60.body.getD .skip
theorem F60_code_ok : okC Try.prog Try.f60.ntmps F60_code = true := by kernel_rfl
def F60_1C (K0 : World → Prop) (Kr : Value → World → Prop) : Post := fun o t w => match o with | .normal => False | .exit i => (match Nat.beq i 0 with | true => K0  w | false => False) | .ret => Kr (t 4) w
def F60_1B (R : Value → Value → Value → World → Prop) (K0 : World → Prop) (Kr : Value → World → Prop) (x0 : Value) (x1 : Value) (x5 : Value) (w : World) : Prop :=
  rdP x0 fun p1 => rdI .u32 x1 fun n2 => rdI .i64 x5 fun n3 => nn p1 fun a4 => ldC (a4.add 2) w fun _ l5n _ => br (decide ((n3 : Int) < (l5n : Int))) (nn p1 fun a6 => ldC (a6.add 2) w fun l7a l7n _ => ixS 15 l7a l7n n3 fun a8 => ldI .u32 (a8.add 2) w fun n9 => br (n9 == n2) (Kr (.int .i64 n3) w) (R (.pointer p1) (.int .u32 n2) (.int .i64 (IntKind.wrap .i64 (n3 + 1))) w)) (K0 w)
def F60_1 (K0 : World → Prop) (Kr : Value → World → Prop) : Nat → Value → Value → Value → World → Prop
  | 0 => fun _ _ _ _ => False
  | n + 1 => F60_1B (F60_1 K0 Kr n) K0 Kr
def F60_1O (Q : Post) (t : Tm) (w : World) : Prop := ∃ n, F60_1 (fun w => ∀ g, rsh [] (upds g []) fun t => Q (.exit 0) t w) (fun y4 w => ∀ g, rsh [(4, (.one (.int .i64)))] (upds g [(4, y4)]) fun t => Q .ret t w) n (t 0) (t 1) (t 5) w
theorem F60_1_step (K0 : World → Prop) (Kr : Value → World → Prop) (n : Nat) (t : Tm) (w : World) : (F60_1 K0 Kr (n + 1) (t 0) (t 1) (t 5) w) = rsh [(0, (.one .ptr)), (1, (.one (.int .u32))), (5, (.one (.int .i64)))] t (fun t => vc Try.prog (orcOf []) [0, 0, 1, 0, 1] (getAt F60_code [0, 0, 1, 0, 1]) (fun o t w => match o with | .normal => F60_1 K0 Kr n (t 0) (t 1) (t 5) w | .exit i => F60_1C K0 Kr (.exit i) t w | .ret => F60_1C K0 Kr .ret t w) t w) := by kernel_rfl
theorem F60_1_ok : ∀ Q t w, F60_1O Q t w → W Try.prog Try.f60.ntmps (getAt F60_code [0, 1, 0, 1]) Q t w := by
  intro Q t w ⟨n, h⟩
  refine (W_loop (P := Try.prog) (b := getAt F60_code [0, 0, 1, 0, 1]) (Q := F60_1C (fun w => ∀ g, rsh [] (upds g []) fun t => Q (.exit 0) t w) (fun y4 w => ∀ g, rsh [(4, (.one (.int .i64)))] (upds g [(4, y4)]) fun t => Q .ret t w)) (G := fun n t w => F60_1 (fun w => ∀ g, rsh [] (upds g []) fun t => Q (.exit 0) t w) (fun y4 w => ∀ g, rsh [(4, (.one (.int .i64)))] (upds g [(4, y4)]) fun t => Q .ret t w) n (t 0) (t 1) (t 5) w) (fun _ _ h => h) (fun n t w h => ?_) n t w h).mono ?_
  · rw [F60_1_step] at h
    exact vc_sound mixed (orcNil F60_code) _ _ rfl (okC_at F60_code_ok [0, 0, 1, 0, 1]) _ _ _ (rsh_out h)
  · intro o t w q
    cases o with
    | normal => exact q.elim
    | exit i =>
      unfold F60_1C at q
      simp only at q
      split at q
      · rename_i hi
        rw [nbeq] at hi
        subst hi
        exact out_ok [] q
      · exact q.elim
    | ret => exact out_ok [4] q
def F60 (x0 : Value) (x1 : Value) (w : World) (K : Value → World → Prop) : Prop :=
  rdP x0 fun p1 => rdI .u32 x1 fun n2 => ∃ k10 : Nat, F60_1 (fun w4 => ∀ _g5 : Tm, K (.int .i64 (-1)) w4) (fun y4_5 w7 => ∀ _g8 : Tm, rdI .i64 y4_5 fun n9 => K (.int .i64 n9) w7) k10 (.pointer p1) (.int .u32 n2) (.int .i64 0) w
theorem F60_step (x0 : Value) (x1 : Value) (w : World) (K : Value → World → Prop) : (F60 x0 x1 w K) = rsh [(0, (.one .ptr)), (1, (.one (.int .u32)))] (args0 #[x0, x1]) (fun t => vc Try.prog (orcOf [([0, 1, 0, 1], F60_1O)]) [] F60_code (retQ Try.prog Try.f60 K) t w) := by kernel_rfl
theorem F60_ok {x0 x1 : Value} {w : World} {K : Value → World → Prop} (h : F60 x0 x1 w K) : Calls Try.prog 60 #[x0, x1] w fun e w' => ∃ v, e = .returned v ∧ K v w' := by
  rw [F60_step] at h
  exact calls_of (c := F60_code) mixed Try.func60 rfl (nlt rfl) (vc_sound mixed (orcCons (π := [0, 1, 0, 1]) F60_1_ok (orcNil F60_code)) F60_code [] rfl F60_code_ok _ _ _ (rsh_out h))

/-! ropewalk/ropewalkref20.in -/
noncomputable def F61_code : Code := Try.f61.body.getD .skip
theorem F61_code_ok : okC Try.prog Try.f61.ntmps F61_code = true := by kernel_rfl
def F61_1C (K0 : World → Prop) (Kr : Value → World → Prop) : Post := fun o t w => match o with | .normal => False | .exit i => (match Nat.beq i 0 with | true => K0  w | false => False) | .ret => Kr (t 4) w
def F61_1B (R : Value → Value → Value → World → Prop) (K0 : World → Prop) (Kr : Value → World → Prop) (x0 : Value) (x1 : Value) (x5 : Value) (w : World) : Prop :=
  rdC x0 fun l1a l1n l1c => rdI .u32 x1 fun n2 => rdI .i64 x5 fun n3 => br (decide ((n3 : Int) < (l1n : Int))) (ixS 1 l1a l1n n3 fun a4 => ldI .u32 a4 w fun n5 => br (n5 == n2) (Kr (.bool true) w) (R (.slice l1a l1n l1c) (.int .u32 n2) (.int .i64 (IntKind.wrap .i64 (n3 + 1))) w)) (K0 w)
def F61_1 (K0 : World → Prop) (Kr : Value → World → Prop) : Nat → Value → Value → Value → World → Prop
  | 0 => fun _ _ _ _ => False
  | n + 1 => F61_1B (F61_1 K0 Kr n) K0 Kr
def F61_1O (Q : Post) (t : Tm) (w : World) : Prop := ∃ n, F61_1 (fun w => ∀ g, rsh [] (upds g []) fun t => Q (.exit 0) t w) (fun y4 w => ∀ g, rsh [(4, (.one .bool))] (upds g [(4, y4)]) fun t => Q .ret t w) n (t 0) (t 1) (t 5) w
theorem F61_1_step (K0 : World → Prop) (Kr : Value → World → Prop) (n : Nat) (t : Tm) (w : World) : (F61_1 K0 Kr (n + 1) (t 0) (t 1) (t 5) w) = rsh [(0, (.one .slc)), (1, (.one (.int .u32))), (5, (.one (.int .i64)))] t (fun t => vc Try.prog (orcOf []) [0, 0, 1, 0, 1] (getAt F61_code [0, 0, 1, 0, 1]) (fun o t w => match o with | .normal => F61_1 K0 Kr n (t 0) (t 1) (t 5) w | .exit i => F61_1C K0 Kr (.exit i) t w | .ret => F61_1C K0 Kr .ret t w) t w) := by kernel_rfl
theorem F61_1_ok : ∀ Q t w, F61_1O Q t w → W Try.prog Try.f61.ntmps (getAt F61_code [0, 1, 0, 1]) Q t w := by
  intro Q t w ⟨n, h⟩
  refine (W_loop (P := Try.prog) (b := getAt F61_code [0, 0, 1, 0, 1]) (Q := F61_1C (fun w => ∀ g, rsh [] (upds g []) fun t => Q (.exit 0) t w) (fun y4 w => ∀ g, rsh [(4, (.one .bool))] (upds g [(4, y4)]) fun t => Q .ret t w)) (G := fun n t w => F61_1 (fun w => ∀ g, rsh [] (upds g []) fun t => Q (.exit 0) t w) (fun y4 w => ∀ g, rsh [(4, (.one .bool))] (upds g [(4, y4)]) fun t => Q .ret t w) n (t 0) (t 1) (t 5) w) (fun _ _ h => h) (fun n t w h => ?_) n t w h).mono ?_
  · rw [F61_1_step] at h
    exact vc_sound mixed (orcNil F61_code) _ _ rfl (okC_at F61_code_ok [0, 0, 1, 0, 1]) _ _ _ (rsh_out h)
  · intro o t w q
    cases o with
    | normal => exact q.elim
    | exit i =>
      unfold F61_1C at q
      simp only at q
      split at q
      · rename_i hi
        rw [nbeq] at hi
        subst hi
        exact out_ok [] q
      · exact q.elim
    | ret => exact out_ok [4] q
def F61 (x0 : Value) (x1 : Value) (w : World) (K : Value → World → Prop) : Prop :=
  rdC x0 fun l1a l1n l1c => rdI .u32 x1 fun n2 => ∃ k10 : Nat, F61_1 (fun w4 => ∀ _g5 : Tm, K (.bool false) w4) (fun y4_5 w7 => ∀ _g8 : Tm, rdB y4_5 fun b9 => K (.bool b9) w7) k10 (.slice l1a l1n l1c) (.int .u32 n2) (.int .i64 0) w
theorem F61_step (x0 : Value) (x1 : Value) (w : World) (K : Value → World → Prop) : (F61 x0 x1 w K) = rsh [(0, (.one .slc)), (1, (.one (.int .u32)))] (args0 #[x0, x1]) (fun t => vc Try.prog (orcOf [([0, 1, 0, 1], F61_1O)]) [] F61_code (retQ Try.prog Try.f61 K) t w) := by kernel_rfl
theorem F61_ok {x0 x1 : Value} {w : World} {K : Value → World → Prop} (h : F61 x0 x1 w K) : Calls Try.prog 61 #[x0, x1] w fun e w' => ∃ v, e = .returned v ∧ K v w' := by
  rw [F61_step] at h
  exact calls_of (c := F61_code) mixed Try.func61 rfl (nlt rfl) (vc_sound mixed (orcCons (π := [0, 1, 0, 1]) F61_1_ok (orcNil F61_code)) F61_code [] rfl F61_code_ok _ _ _ (rsh_out h))

/-! (*ropewalk/ropewalkref20.Table).begin -/
noncomputable def F62_code : Code := Try.f62.body.getD .skip
theorem F62_code_ok : okC Try.prog Try.f62.ntmps F62_code = true := by kernel_rfl
def F62_1C (K0 : World → Prop) (Kr : Value → Value → World → Prop) : Post := fun o t w => match o with | .normal => False | .exit i => (match Nat.beq i 0 with | true => K0  w | false => False) | .ret => Kr (t 4) (t 5) w
def F62_1B (R : Value → Value → Value → World → Prop) (K0 : World → Prop) (Kr : Value → Value → World → Prop) (x0 : Value) (x1 : Value) (x6 : Value) (w : World) : Prop :=
  rdP x0 fun p1 => rdI .u32 x1 fun n2 => rdI .i64 x6 fun n3 => nn p1 fun a4 => ldC (a4.add 2) w fun _ l5n _ => br (decide ((n3 : Int) ≤ (l5n : Int))) (Calls Try.prog 60 #[(.pointer p1), (.int .u32 n2)] w fun e7 w6 => ∃ n8, e7 = .returned (.int .i64 n8) ∧ (br (decide ((n8 : Int) < 0)) (Kr (.int .u32 0) (.bool false) w6) (nn p1 fun a9 => ldC (a9.add 2) w6 fun l10a l10n _ => ixS 15 l10a l10n n8 fun a11 => ldR35 a11 w6 fun s12 => Calls Try.prog 65 #[s12.v, (.int .u8 2)] w6 fun e14 w13 => ∃ b15, e14 = .returned (.bool b15) ∧ (br b15 (Kr (.int .u32 n2) (.bool true) w13) (R (.pointer p1) (.int .u32 (IntKind.wrap .u32 (n2 - 1))) (.int .i64 (IntKind.wrap .i64 (n3 + 1))) w13))))) (K0 w)
def F62_1 (K0 : World → Prop) (Kr : Value → Value → World → Prop) : Nat → Value → Value → Value → World → Prop
  | 0 => fun _ _ _ _ => False
  | n + 1 => F62_1B (F62_1 K0 Kr n) K0 Kr
def F62_1O (Q : Post) (t : Tm) (w : World) : Prop := ∃ n, F62_1 (fun w => ∀ g, rsh [] (upds g []) fun t => Q (.exit 0) t w) (fun y4 y5 w => ∀ g, rsh [(4, (.one (.int .u32))), (5, (.one .bool))] (upds g [(4, y4), (5, y5)]) fun t => Q .ret t w) n (t 0) (t 1) (t 6) w
theorem F62_1_step (K0 : World → Prop) (Kr : Value → Value → World → Prop) (n : Nat) (t : Tm) (w : World) : (F62_1 K0 Kr (n + 1) (t 0) (t 1) (t 6) w) = rsh [(0, (.one .ptr)), (1, (.one (.int .u32))), (6, (.one (.int .i64)))] t (fun t => vc Try.prog (orcOf []) [0, 0, 1, 0, 1] (getAt F62_code [0, 0, 1, 0, 1]) (fun o t w => match o with | .normal => F62_1 K0 Kr n (t 0) (t 1) (t 6) w | .exit i => F62_1C K0 Kr (.exit i) t w | .ret => F62_1C K0 Kr .ret t w) t w) := by kernel_rfl
theorem F62_1_ok : ∀ Q t w, F62_1O Q t w → W Try.prog Try.f62.ntmps (getAt F62_code [0, 1, 0, 1]) Q t w := by
  intro Q t w ⟨n, h⟩
  refine (W_loop (P := Try.prog) (b := getAt F62_code [0, 0, 1, 0, 1]) (Q := F62_1C (fun w => ∀ g, rsh [] (upds g []) fun t => Q (.exit 0) t w) (fun y4 y5 w => ∀ g, rsh [(4, (.one (.int .u32))), (5, (.one .bool))] (upds g [(4, y4), (5, y5)]) fun t => Q .ret t w)) (G := fun n t w => F62_1 (fun w => ∀ g, rsh [] (upds g []) fun t => Q (.exit 0) t w) (fun y4 y5 w => ∀ g, rsh [(4, (.one (.int .u32))), (5, (.one .bool))] (upds g [(4, y4), (5, y5)]) fun t => Q .ret t w) n (t 0) (t 1) (t 6) w) (fun _ _ h => h) (fun n t w h => ?_) n t w h).mono ?_
  · rw [F62_1_step] at h
    exact vc_sound mixed (orcNil F62_code) _ _ rfl (okC_at F62_code_ok [0, 0, 1, 0, 1]) _ _ _ (rsh_out h)
  · intro o t w q
    cases o with
    | normal => exact q.elim
    | exit i =>
      unfold F62_1C at q
      simp only at q
      split at q
      · rename_i hi
        rw [nbeq] at hi
        subst hi
        exact out_ok [] q
      · exact q.elim
    | ret => exact out_ok [4, 5] q
def F62 (x0 : Value) (x1 : Value) (w : World) (K : Value → World → Prop) : Prop :=
  rdP x0 fun p1 => rdI .u32 x1 fun n2 => ∃ k11 : Nat, F62_1 (fun w4 => ∀ _g5 : Tm, K (.tuple #[(.int .u32 0), (.bool false)]) w4) (fun y4_5 y5_5 w7 => ∀ _g8 : Tm, rdI .u32 y4_5 fun n9 => rdB y5_5 fun b10 => K (.tuple #[(.int .u32 n9), (.bool b10)]) w7) k11 (.pointer p1) (.int .u32 n2) (.int .i64 0) w
theorem F62_step (x0 : Value) (x1 : Value) (w : World) (K : Value → World → Prop) : (F62 x0 x1 w K) = rsh [(0, (.one .ptr)), (1, (.one (.int .u32)))] (args0 #[x0, x1]) (fun t => vc Try.prog (orcOf [([0, 1, 0, 1], F62_1O)]) [] F62_code (retQ Try.prog Try.f62 K) t w) := by kernel_rfl
theorem F62_ok {x0 x1 : Value} {w : World} {K : Value → World → Prop} (h : F62 x0 x1 w K) : Calls Try.prog 62 #[x0, x1] w fun e w' => ∃ v, e = .returned v ∧ K v w' := by
  rw [F62_step] at h
  exact calls_of (c := F62_code) mixed Try.func62 rfl (nlt rfl) (vc_sound mixed (orcCons (π := [0, 1, 0, 1]) F62_1_ok (orcNil F62_code)) F62_code [] rfl F62_code_ok _ _ _ (rsh_out h))

/-! ropewalk/ropewalkref20.holds -/
noncomputable def F63_code : Code := Try.f63.body.getD .skip
theorem F63_code_ok : okC Try.prog Try.f63.ntmps F63_code = true := by kernel_rfl
def F63_1C (K0 : World → Prop) (Kr : Value → World → Prop) : Post := fun o t w => match o with | .normal => False | .exit i => (match Nat.beq i 0 with | true => K0  w | false => False) | .ret => Kr (t 4) w
def F63_1B (R : Value → Value → Value → World → Prop) (K0 : World → Prop) (Kr : Value → World → Prop) (x0 : Value) (x1 : Value) (x5 : Value) (w : World) : Prop :=
  rdC x0 fun l1a l1n l1c => rdI .u32 x1 fun n2 => rdI .i64 x5 fun n3 => br (decide ((n3 : Int) < (l1n : Int))) (ixS 15 l1a l1n n3 fun a4 => ldI .u32 (a4.add 2) w fun n5 => br (n5 == n2) (Kr (.bool true) w) (R (.slice l1a l1n l1c) (.int .u32 n2) (.int .i64 (IntKind.wrap .i64 (n3 + 1))) w)) (K0 w)
def F63_1 (K0 : World → Prop) (Kr : Value → World → Prop) : Nat → Value → Value → Value → World → Prop
  | 0 => fun _ _ _ _ => False
  | n + 1 => F63_1B (F63_1 K0 Kr n) K0 Kr
def F63_1O (Q : Post) (t : Tm) (w : World) : Prop := ∃ n, F63_1 (fun w => ∀ g, rsh [] (upds g []) fun t => Q (.exit 0) t w) (fun y4 w => ∀ g, rsh [(4, (.one .bool))] (upds g [(4, y4)]) fun t => Q .ret t w) n (t 0) (t 1) (t 5) w
theorem F63_1_step (K0 : World → Prop) (Kr : Value → World → Prop) (n : Nat) (t : Tm) (w : World) : (F63_1 K0 Kr (n + 1) (t 0) (t 1) (t 5) w) = rsh [(0, (.one .slc)), (1, (.one (.int .u32))), (5, (.one (.int .i64)))] t (fun t => vc Try.prog (orcOf []) [0, 0, 1, 0, 1] (getAt F63_code [0, 0, 1, 0, 1]) (fun o t w => match o with | .normal => F63_1 K0 Kr n (t 0) (t 1) (t 5) w | .exit i => F63_1C K0 Kr (.exit i) t w | .ret => F63_1C K0 Kr .ret t w) t w) := by kernel_rfl
theorem F63_1_ok : ∀ Q t w, F63_1O Q t w → W Try.prog Try.f63.ntmps (getAt F63_code [0, 1, 0, 1]) Q t w := by
  intro Q t w ⟨n, h⟩
  refine (W_loop (P := Try.prog) (b := getAt F63_code [0, 0, 1, 0, 1]) (Q := F63_1C (fun w => ∀ g, rsh [] (upds g []) fun t => Q (.exit 0) t w) (fun y4 w => ∀ g, rsh [(4, (.one .bool))] (upds g [(4, y4)]) fun t => Q .ret t w)) (G := fun n t w => F63_1 (fun w => ∀ g, rsh [] (upds g []) fun t => Q (.exit 0) t w) (fun y4 w => ∀ g, rsh [(4, (.one .bool))] (upds g [(4, y4)]) fun t => Q .ret t w) n (t 0) (t 1) (t 5) w) (fun _ _ h => h) (fun n t w h => ?_) n t w h).mono ?_
  · rw [F63_1_step] at h
    exact vc_sound mixed (orcNil F63_code) _ _ rfl (okC_at F63_code_ok [0, 0, 1, 0, 1]) _ _ _ (rsh_out h)
  · intro o t w q
    cases o with
    | normal => exact q.elim
    | exit i =>
      unfold F63_1C at q
      simp only at q
      split at q
      · rename_i hi
        rw [nbeq] at hi
        subst hi
        exact out_ok [] q
      · exact q.elim
    | ret => exact out_ok [4] q
def F63 (x0 : Value) (x1 : Value) (w : World) (K : Value → World → Prop) : Prop :=
  rdC x0 fun l1a l1n l1c => rdI .u32 x1 fun n2 => ∃ k10 : Nat, F63_1 (fun w4 => ∀ _g5 : Tm, K (.bool false) w4) (fun y4_5 w7 => ∀ _g8 : Tm, rdB y4_5 fun b9 => K (.bool b9) w7) k10 (.slice l1a l1n l1c) (.int .u32 n2) (.int .i64 0) w
theorem F63_step (x0 : Value) (x1 : Value) (w : World) (K : Value → World → Prop) : (F63 x0 x1 w K) = rsh [(0, (.one .slc)), (1, (.one (.int .u32)))] (args0 #[x0, x1]) (fun t => vc Try.prog (orcOf [([0, 1, 0, 1], F63_1O)]) [] F63_code (retQ Try.prog Try.f63 K) t w) := by kernel_rfl
theorem F63_ok {x0 x1 : Value} {w : World} {K : Value → World → Prop} (h : F63 x0 x1 w K) : Calls Try.prog 63 #[x0, x1] w fun e w' => ∃ v, e = .returned v ∧ K v w' := by
  rw [F63_step] at h
  exact calls_of (c := F63_code) mixed Try.func63 rfl (nlt rfl) (vc_sound mixed (orcCons (π := [0, 1, 0, 1]) F63_1_ok (orcNil F63_code)) F63_code [] rfl F63_code_ok _ _ _ (rsh_out h))

/-! (*ropewalk/ropewalkref20.Table).row -/
noncomputable def F64_code : Code := Try.f64.body.getD .skip
theorem F64_code_ok : okC Try.prog Try.f64.ntmps F64_code = true := by kernel_rfl
def F64_1C (Kn : Value → Value → World → Prop) : Post := fun o t w => match o with | .normal => Kn (t 0) (t 6) w | .exit _ => (False) | .ret => False
def F64_1 (Kn : Value → Value → World → Prop) (x0 : Value) (x6 : Value) (x8 : Value) (w : World) : Prop :=
  rdP x0 fun p1 => rdC x6 fun l2a l2n l2c => rdI .i64 x8 fun n3 => nn p1 fun a4 => ldC (a4.add 2) w fun l5a l5n _ => ixS 15 l5a l5n n3 fun a6 => ldR35 a6 w fun s7 => alc (.cells s7.c 36) w fun b8 w9 => ∃ l10a l10n l10c w11, Sem.run Try.prog (Builtin.append_ #[45, 45] 45 #[(.slice l2a l2n l2c), (.slice (some (Addr.mk b8 0 none)) 1 1)]) w9 = .ok (.slice l10a l10n l10c) w11 ∧ (Kn (.pointer p1) (.slice l10a l10n l10c) w11)
def F64_1O (Q : Post) (t : Tm) (w : World) : Prop := F64_1 (fun y0 y6 w => ∀ g, rsh [(0, (.one .ptr)), (6, (.one .slc))] (upds g [(0, y0), (6, y6)]) fun t => Q .normal t w) (t 0) (t 6) (t 8) w
theorem F64_1_step (Kn : Value → Value → World → Prop) (t : Tm) (w : World) : (F64_1 Kn (t 0) (t 6) (t 8) w) = rsh [(0, (.one .ptr)), (6, (.one .slc)), (8, (.one (.int .i64)))] t (fun t => vc Try.prog (orcOf []) [1, 1, 1, 0, 1, 0, 0, 0, 1, 1, 1, 1] (getAt F64_code [1, 1, 1, 0, 1, 0, 0, 0, 1, 1, 1, 1]) (F64_1C Kn) t w) := by kernel_rfl
theorem F64_1_ok : ∀ Q t w, F64_1O Q t w → W Try.prog Try.f64.ntmps (getAt F64_code [1, 1, 1, 0, 1, 0, 0, 0, 1, 1, 1, 1]) Q t w := by
  intro Q t w h
  unfold F64_1O at h
  rw [F64_1_step] at h
  refine (vc_sound mixed (orcNil F64_code) _ _ rfl (okC_at F64_code_ok [1, 1, 1, 0, 1, 0, 0, 0, 1, 1, 1, 1]) _ _ _ (rsh_out h)).mono ?_
  intro o t w q
  cases o with
  | normal => exact out_ok [0, 6] q
  | exit i => exact q.elim
  | ret => exact q.elim
def F64_2C (K0 : Value → World → Prop) (Kr : Value → World → Prop) : Post := fun o t w => match o with | .normal => False | .exit i => (match Nat.beq i 0 with | true => K0 (t 6) w | false => False) | .ret => Kr (t 4) w
def F64_2B (R : Value → Value → World → Prop) (K0 : Value → World → Prop) (Kr : Value → World → Prop) (x0 : Value) (x6 : Value) (w : World) : Prop :=
  rdP x0 fun p1 => rdC x6 fun l2a l2n l2c => ixS 15 l2a l2n (IntKind.wrap .i64 ((l2n : Int) - 1)) fun a3 => ldR35 a3 w fun s4 => Calls Try.prog 65 #[s4.v, (.int .u8 1)] w fun e6 w5 => ∃ b7, e6 = .returned (.bool b7) ∧ (br (!b7) (ixS 15 l2a l2n (IntKind.wrap .i64 ((l2n : Int) - 1)) fun a8 => ldR35 a8 w5 fun s9 => alc (.cells ((R35.mk 0 0 0 0 0 0 0 0 0 0 none 0 0 none 0 0 none 0 0 none 0 0 none 0 0)).c 36) w5 fun b10 w11 => stcL (Addr.mk b10 0 none) 0 s9.l w11 fun w12 => ldI .u32 ((Addr.mk b10 0 none).add 2) w12 fun n13 => Calls Try.prog 60 #[(.pointer p1), (.int .u32 (IntKind.wrap .u32 (n13 + 1)))] w12 fun e15 w14 => ∃ n16, e15 = .returned (.int .i64 n16) ∧ (drw w14 fun w17 => ∃ w18 : World, Pres w18 w17 ∧ (br (decide ((n16 : Int) < 0)) (Kr (.slice none 0 0) w17) (nn p1 fun a19 => ldC (a19.add 2) w17 fun l20a l20n _ => ixS 15 l20a l20n n16 fun a21 => ldR35 a21 w17 fun s22 => Calls Try.prog 65 #[s22.v, (.int .u8 2)] w17 fun e24 w23 => ∃ b25, e24 = .returned (.bool b25) ∧ (Pres w18 w23 ∧ (br b25 (Kr (.slice none 0 0) w23) (nn p1 fun a26 => ldC (a26.add 2) w23 fun l27a l27n _ => ixS 15 l27a l27n n16 fun a28 => ldI .u16 (a28.add 3) w23 fun n29 => ldI .u16 ((Addr.mk b10 0 none).add 3) w23 fun n30 => br (n29 != n30) (Kr (.slice none 0 0) w23) (nn p1 fun a31 => ldC (a31.add 2) w23 fun l32a l32n _ => ixS 15 l32a l32n n16 fun a33 => ldI .u16 (a33.add 4) w23 fun n34 => ldI .u16 ((Addr.mk b10 0 none).add 4) w23 fun n35 => br (n34 != n35) (Kr (.slice none 0 0) w23) (nn p1 fun a36 => ldC (a36.add 2) w23 fun l37a l37n _ => ixS 15 l37a l37n n16 fun a38 => ldR35 a38 w23 fun s39 => ldR35 (Addr.mk b10 0 none) w18 fun s40 => Calls Try.prog 65 #[s39.v, (.int .u8 4)] w23 fun e42 w41 => ∃ b43, e42 = .returned (.bool b43) ∧ (Pres w18 w41 ∧ (Calls Try.prog 65 #[s40.v, (.int .u8 4)] w41 fun e45 w44 => ∃ b46, e45 = .returned (.bool b46) ∧ (br (!(b43 == b46)) (Kr (.slice none 0 0) w44) (F64_1 (fun y0_46 y6_46 w48 => ∀ _g49 : Tm, rdP y0_46 fun p50 => rdC y6_46 fun l51a l51n l51c => R (.pointer p50) (.slice l51a l51n l51c) w48) (.pointer p1) (.slice l2a l2n l2c) (.int .i64 n16) w44))))))))))))) (K0 (.slice l2a l2n l2c) w5))
def F64_2 (K0 : Value → World → Prop) (Kr : Value → World → Prop) : Nat → Value → Value → World → Prop
  | 0 => fun _ _ _ => False
  | n + 1 => F64_2B (F64_2 K0 Kr n) K0 Kr
def F64_2O (Q : Post) (t : Tm) (w : World) : Prop := ∃ n, F64_2 (fun y6 w => ∀ g, rsh [(6, (.one .slc))] (upds g [(6, y6)]) fun t => Q (.exit 0) t w) (fun y4 w => ∀ g, rsh [(4, (.one .slc))] (upds g [(4, y4)]) fun t => Q .ret t w) n (t 0) (t 6) w
theorem F64_2_step (K0 : Value → World → Prop) (Kr : Value → World → Prop) (n : Nat) (t : Tm) (w : World) : (F64_2 K0 Kr (n + 1) (t 0) (t 6) w) = rsh [(0, (.one .ptr)), (6, (.one .slc))] t (fun t => vc Try.prog (orcOf [([1, 1, 1, 0, 1, 0, 0, 0, 1, 1, 1, 1], F64_1O)]) [0, 0, 0, 1, 1, 1, 1] (getAt F64_code [0, 0, 0, 1, 1, 1, 1]) (fun o t w => match o with | .normal => F64_2 K0 Kr n (t 0) (t 6) w | .exit i => F64_2C K0 Kr (.exit i) t w | .ret => F64_2C K0 Kr .ret t w) t w) := by kernel_rfl
theorem F64_2_ok : ∀ Q t w, F64_2O Q t w → W Try.prog Try.f64.ntmps (getAt F64_code [0, 0, 1, 1, 1, 1]) Q t w := by
  intro Q t w ⟨n, h⟩
  refine (W_loop (P := Try.prog) (b := getAt F64_code [0, 0, 0, 1, 1, 1, 1]) (Q := F64_2C (fun y6 w => ∀ g, rsh [(6, (.one .slc))] (upds g [(6, y6)]) fun t => Q (.exit 0) t w) (fun y4 w => ∀ g, rsh [(4, (.one .slc))] (upds g [(4, y4)]) fun t => Q .ret t w)) (G := fun n t w => F64_2 (fun y6 w => ∀ g, rsh [(6, (.one .slc))] (upds g [(6, y6)]) fun t => Q (.exit 0) t w) (fun y4 w => ∀ g, rsh [(4, (.one .slc))] (upds g [(4, y4)]) fun t => Q .ret t w) n (t 0) (t 6) w) (fun _ _ h => h) (fun n t w h => ?_) n t w h).mono ?_
  · rw [F64_2_step] at h
    exact vc_sound mixed (orcCons (π := [1, 1, 1, 0, 1, 0, 0, 0, 1, 1, 1, 1]) F64_1_ok (orcNil F64_code)) _ _ rfl (okC_at F64_code_ok [0, 0, 0, 1, 1, 1, 1]) _ _ _ (rsh_out h)
  · intro o t w q
    cases o with
    | normal => exact q.elim
    | exit i =>
      unfold F64_2C at q
      simp only at q
      split at q
      · rename_i hi
        rw [nbeq] at hi
        subst hi
        exact out_ok [6] q
      · exact q.elim
    | ret => exact out_ok [4] q
def F64_3C (Kr : Value → World → Prop) : Post := fun o t w => match o with | .normal => False | .exit _ => (False) | .ret => Kr (t 4) w
def F64_3 (Kr : Value → World → Prop) (x0 : Value) (x5 : Value) (w : World) : Prop :=
  rdP x0 fun p1 => rdI .i64 x5 fun n2 => nn p1 fun a3 => ldC (a3.add 2) w fun l4a l4n _ => ixS 15 l4a l4n n2 fun a5 => ldR35 a5 w fun s6 => alc (.cells s6.c 36) w fun b7 w8 => ∃ k17 : Nat, F64_2 (fun y6_8 w10 => ∀ _g11 : Tm, rdC y6_8 fun l12a l12n l12c => Kr (.slice l12a l12n l12c) w10) (fun y4_12 w14 => ∀ _g15 : Tm, rdC y4_12 fun l16a l16n l16c => Kr (.slice l16a l16n l16c) w14) k17 (.pointer p1) (.slice (some (Addr.mk b7 0 none)) 1 1) w8
def F64_3O (Q : Post) (t : Tm) (w : World) : Prop := F64_3 (fun y4 w => ∀ g, rsh [(4, (.one .slc))] (upds g [(4, y4)]) fun t => Q .ret t w) (t 0) (t 5) w
theorem F64_3_step (Kr : Value → World → Prop) (t : Tm) (w : World) : (F64_3 Kr (t 0) (t 5) w) = rsh [(0, (.one .ptr)), (5, (.one (.int .i64)))] t (fun t => vc Try.prog (orcOf [([1, 1, 1, 0, 1, 0, 0, 0, 1, 1, 1, 1], F64_1O), ([0, 0, 1, 1, 1, 1], F64_2O)]) [1, 1, 1] (getAt F64_code [1, 1, 1]) (F64_3C Kr) t w) := by kernel_rfl
theorem F64_3_ok : ∀ Q t w, F64_3O Q t w → W Try.prog Try.f64.ntmps (getAt F64_code [1, 1, 1]) Q t w := by
  intro Q t w h
  unfold F64_3O at h
  rw [F64_3_step] at h
  refine (vc_sound mixed (orcCons (π := [1, 1, 1, 0, 1, 0, 0, 0, 1, 1, 1, 1]) F64_1_ok (orcCons (π := [0, 0, 1, 1, 1, 1]) F64_2_ok (orcNil F64_code))) _ _ rfl (okC_at F64_code_ok [1, 1, 1]) _ _ _ (rsh_out h)).mono ?_
  intro o t w q
  cases o with
  | normal => exact q.elim
  | exit i => exact q.elim
  | ret => exact out_ok [4] q
def F64 (x0 : Value) (x1 : Value) (w : World) (K : Value → World → Prop) : Prop :=
  rdP x0 fun p1 => rdI .u32 x1 fun n2 => Calls Try.prog 60 #[(.pointer p1), (.int .u32 n2)] w fun e4 w3 => ∃ n5, e4 = .returned (.int .i64 n5) ∧ (br (decide ((n5 : Int) < 0)) (K (.slice none 0 0) w3) (nn p1 fun a6 => ldC (a6.add 2) w3 fun l7a l7n _ => ixS 15 l7a l7n n5 fun a8 => ldR35 a8 w3 fun s9 => Calls Try.prog 65 #[s9.v, (.int .u8 2)] w3 fun e11 w10 => ∃ b12, e11 = .returned (.bool b12) ∧ (br (!b12) (K (.slice none 0 0) w10) (F64_3 (fun y4_12 w14 => ∀ _g15 : Tm, rdC y4_12 fun l16a l16n l16c => K (.slice l16a l16n l16c) w14) (.pointer p1) (.int .i64 n5) w10))))
theorem F64_step (x0 : Value) (x1 : Value) (w : World) (K : Value → World → Prop) : (F64 x0 x1 w K) = rsh [(0, (.one .ptr)), (1, (.one (.int .u32)))] (args0 #[x0, x1]) (fun t => vc Try.prog (orcOf [([1, 1, 1, 0, 1, 0, 0, 0, 1, 1, 1, 1], F64_1O), ([0, 0, 1, 1, 1, 1], F64_2O), ([1, 1, 1], F64_3O)]) [] F64_code (retQ Try.prog Try.f64 K) t w) := by kernel_rfl
theorem F64_ok {x0 x1 : Value} {w : World} {K : Value → World → Prop} (h : F64 x0 x1 w K) : Calls Try.prog 64 #[x0, x1] w fun e w' => ∃ v, e = .returned v ∧ K v w' := by
  rw [F64_step] at h
  exact calls_of (c := F64_code) mixed Try.func64 rfl (nlt rfl) (vc_sound mixed (orcCons (π := [1, 1, 1, 0, 1, 0, 0, 0, 1, 1, 1, 1]) F64_1_ok (orcCons (π := [0, 0, 1, 1, 1, 1]) F64_2_ok (orcCons (π := [1, 1, 1]) F64_3_ok (orcNil F64_code)))) F64_code [] rfl F64_code_ok _ _ _ (rsh_out h))

/-! ropewalk/ropewalkref20.has -/
noncomputable def F65_code : Code := Try.f65.body.getD .skip
theorem F65_code_ok : okC Try.prog Try.f65.ntmps F65_code = true := by kernel_rfl
def F65 (x0 : Value) (x1 : Value) (w : World) (K : Value → World → Prop) : Prop :=
  exR35 fun s1 => x0 = s1.v ∧ (rdI .u8 x1 fun n2 => alc (.cells s1.c 36) w fun b3 w4 => ldI .u8 ((Addr.mk b3 0 none).add 1) w4 fun n5 => K (.bool ((bitI .and .u8 n5 n2) != 0)) w4)
theorem F65_step (x0 : Value) (x1 : Value) (w : World) (K : Value → World → Prop) : (F65 x0 x1 w K) = rsh [(0, (.agg [(.int .u8), (.int .u8), (.int .u32), (.int .u16), (.int .u16), (.int .u32), (.int .u32), (.int .u32), (.int .u16), (.int .u16), .slc, .slc, .slc, .slc, .slc])), (1, (.one (.int .u8)))] (args0 #[x0, x1]) (fun t => vc Try.prog (orcOf []) [] F65_code (retQ Try.prog Try.f65 K) t w) := by kernel_rfl
theorem F65_ok {x0 x1 : Value} {w : World} {K : Value → World → Prop} (h : F65 x0 x1 w K) : Calls Try.prog 65 #[x0, x1] w fun e w' => ∃ v, e = .returned v ∧ K v w' := by
  rw [F65_step] at h
  exact calls_of (c := F65_code) mixed Try.func65 rfl (nlt rfl) (vc_sound mixed (orcNil F65_code) F65_code [] rfl F65_code_ok _ _ _ (rsh_out h))

/-! (*ropewalk/ropewalkref20.Table).ready -/
noncomputable def F66_code : Code := Try.f66.body.getD .skip
theorem F66_code_ok : okC Try.prog Try.f66.ntmps F66_code = true := by kernel_rfl
def F66_1C (K0 : Value → Value → Value → World → Prop) : Post := fun o t w => match o with | .normal => False | .exit i => (match Nat.beq i 0 with | true => K0 (t 0) (t 1) (t 5) w | false => False) | .ret => False
def F66_1B (R : Value → Value → Value → Value → Value → World → Prop) (K0 : Value → Value → Value → World → Prop) (x0 : Value) (x1 : Value) (x4 : Value) (x5 : Value) (x6 : Value) (w : World) : Prop :=
  rdP x0 fun p1 => rdI .u32 x1 fun n2 => rdC x4 fun l3a l3n l3c => rdA x5 fun a4 => rdI .i64 x6 fun n5 => br (decide ((n5 : Int) < (l3n : Int))) (drw w fun w6 => ldC (a4.add 4) w6 fun l7a l7n l7c => ixS 15 l3a l3n n5 fun a8 => ldC (a8.add 13) w6 fun l9a l9n l9c => ∃ l10a l10n l10c w11, Sem.run Try.prog (Builtin.append_ #[22, 22] 22 #[(.slice l7a l7n l7c), (.slice l9a l9n l9c)]) w6 = .ok (.slice l10a l10n l10c) w11 ∧ (stc (a4.add 4) (.slice l10a l10n l10c) w11 fun w12 => drw w12 fun w13 => nn p1 fun a14 => ldC (a14.add 5) w13 fun l15a l15n l15c => ixS 15 l3a l3n n5 fun a16 => ldI .u32 (a16.add 2) w13 fun n17 => alc (.cells #[(.int .u32 n17)] 30) w13 fun b18 w19 => Pres w13 w19 ∧ (∃ l20a l20n l20c w21, Sem.run Try.prog (Builtin.append_ #[33, 33] 33 #[(.slice l15a l15n l15c), (.slice (some (Addr.mk b18 0 none)) 1 1)]) w19 = .ok (.slice l20a l20n l20c) w21 ∧ (nn p1 fun a22 => stc (a22.add 5) (.slice l20a l20n l20c) w21 fun w23 => drw w23 fun w24 => nn p1 fun a25 => ldC (a25.add 2) w24 fun l26a l26n l26c => ixS 15 l3a l3n n5 fun a27 => ldI .u32 (a27.add 2) w24 fun n28 => Calls Try.prog 67 #[(.slice l26a l26n l26c), (.int .u32 n28)] w24 fun e30 w29 => ∃ l31a l31n l31c, e30 = .returned (.slice l31a l31n l31c) ∧ (nn p1 fun a32 => stc (a32.add 2) (.slice l31a l31n l31c) w29 fun w33 => R (.pointer p1) (.int .u32 n2) (.slice l3a l3n l3c) (.pointer (some a4)) (.int .i64 (IntKind.wrap .i64 (n5 + 1))) w33))))) (K0 (.pointer p1) (.int .u32 n2) (.pointer (some a4)) w)
def F66_1 (K0 : Value → Value → Value → World → Prop) : Nat → Value → Value → Value → Value → Value → World → Prop
  | 0 => fun _ _ _ _ _ _ => False
  | n + 1 => F66_1B (F66_1 K0 n) K0
def F66_1O (Q : Post) (t : Tm) (w : World) : Prop := ∃ n, F66_1 (fun y0 y1 y5 w => ∀ g, rsh [(0, (.one .ptr)), (1, (.one (.int .u32))), (5, (.one .adr))] (upds g [(0, y0), (1, y1), (5, y5)]) fun t => Q (.exit 0) t w) n (t 0) (t 1) (t 4) (t 5) (t 6) w
theorem F66_1_step (K0 : Value → Value → Value → World → Prop) (n : Nat) (t : Tm) (w : World) : (F66_1 K0 (n + 1) (t 0) (t 1) (t 4) (t 5) (t 6) w) = rsh [(0, (.one .ptr)), (1, (.one (.int .u32))), (4, (.one .slc)), (5, (.one .adr)), (6, (.one (.int .i64)))] t (fun t => vc Try.prog (orcOf []) [0, 0, 1, 0, 1, 1, 1] (getAt F66_code [0, 0, 1, 0, 1, 1, 1]) (fun o t w => match o with | .normal => F66_1 K0 n (t 0) (t 1) (t 4) (t 5) (t 6) w | .exit i => F66_1C K0 (.exit i) t w | .ret => F66_1C K0 .ret t w) t w) := by kernel_rfl
theorem F66_1_ok : ∀ Q t w, F66_1O Q t w → W Try.prog Try.f66.ntmps (getAt F66_code [0, 1, 0, 1, 1, 1]) Q t w := by
  intro Q t w ⟨n, h⟩
  refine (W_loop (P := Try.prog) (b := getAt F66_code [0, 0, 1, 0, 1, 1, 1]) (Q := F66_1C (fun y0 y1 y5 w => ∀ g, rsh [(0, (.one .ptr)), (1, (.one (.int .u32))), (5, (.one .adr))] (upds g [(0, y0), (1, y1), (5, y5)]) fun t => Q (.exit 0) t w)) (G := fun n t w => F66_1 (fun y0 y1 y5 w => ∀ g, rsh [(0, (.one .ptr)), (1, (.one (.int .u32))), (5, (.one .adr))] (upds g [(0, y0), (1, y1), (5, y5)]) fun t => Q (.exit 0) t w) n (t 0) (t 1) (t 4) (t 5) (t 6) w) (fun _ _ h => h) (fun n t w h => ?_) n t w h).mono ?_
  · rw [F66_1_step] at h
    exact vc_sound mixed (orcNil F66_code) _ _ rfl (okC_at F66_code_ok [0, 0, 1, 0, 1, 1, 1]) _ _ _ (rsh_out h)
  · intro o t w q
    cases o with
    | normal => exact q.elim
    | exit i =>
      unfold F66_1C at q
      simp only at q
      split at q
      · rename_i hi
        rw [nbeq] at hi
        subst hi
        exact out_ok [0, 1, 5] q
      · exact q.elim
    | ret => exact q.elim
def F66_2C (Kn : World → Prop) : Post := fun o _ w => match o with | .normal => Kn  w | .exit _ => (False) | .ret => False
def F66_2 (Kn : World → Prop) (x0 : Value) (x1 : Value) (x4 : Value) (x5 : Value) (w : World) : Prop :=
  rdP x0 fun p1 => rdI .u32 x1 fun n2 => rdC x4 fun l3a l3n l3c => rdA x5 fun a4 => ∃ k28 : Nat, F66_1 (fun y0_4 y1_4 y5_4 w6 => ∀ _g7 : Tm, rdP y0_4 fun p8 => rdI .u32 y1_4 fun n9 => rdA y5_4 fun a10 => drw w6 fun w11 => nn p8 fun a12 => ldC (a12.add 3) w11 fun l13a l13n l13c => ldR38 a10 w11 fun s14 => alc (.cells s14.c 39) w11 fun b15 w16 => Pres w11 w16 ∧ (∃ l17a l17n l17c w18, Sem.run Try.prog (Builtin.append_ #[49, 49] 49 #[(.slice l13a l13n l13c), (.slice (some (Addr.mk b15 0 none)) 1 1)]) w16 = .ok (.slice l17a l17n l17c) w18 ∧ (nn p8 fun a19 => stc (a19.add 3) (.slice l17a l17n l17c) w18 fun w20 => nn p8 fun a21 => ldC (a21.add 6) w20 fun l22a l22n l22c => Calls Try.prog 89 #[(.slice l22a l22n l22c), (.int .u32 n9)] w20 fun e24 w23 => ∃ l25a l25n l25c, e24 = .returned (.slice l25a l25n l25c) ∧ (nn p8 fun a26 => stc (a26.add 6) (.slice l25a l25n l25c) w23 fun w27 => Kn w27)))) k28 (.pointer p1) (.int .u32 n2) (.slice l3a l3n l3c) (.pointer (some a4)) (.int .i64 0) w
def F66_2O (Q : Post) (t : Tm) (w : World) : Prop := F66_2 (fun w => ∀ g, rsh [] (upds g []) fun t => Q .normal t w) (t 0) (t 1) (t 4) (t 5) w
theorem F66_2_step (Kn : World → Prop) (t : Tm) (w : World) : (F66_2 Kn (t 0) (t 1) (t 4) (t 5) w) = rsh [(0, (.one .ptr)), (1, (.one (.int .u32))), (4, (.one .slc)), (5, (.one .adr))] t (fun t => vc Try.prog (orcOf [([0, 1, 0, 1, 1, 1], F66_1O)]) [1, 1, 1] (getAt F66_code [1, 1, 1]) (F66_2C Kn) t w) := by kernel_rfl
theorem F66_2_ok : ∀ Q t w, F66_2O Q t w → W Try.prog Try.f66.ntmps (getAt F66_code [1, 1, 1]) Q t w := by
  intro Q t w h
  unfold F66_2O at h
  rw [F66_2_step] at h
  refine (vc_sound mixed (orcCons (π := [0, 1, 0, 1, 1, 1]) F66_1_ok (orcNil F66_code)) _ _ rfl (okC_at F66_code_ok [1, 1, 1]) _ _ _ (rsh_out h)).mono ?_
  intro o t w q
  cases o with
  | normal => exact out_ok [] q
  | exit i => exact q.elim
  | ret => exact q.elim
def F66_3C (Kn : World → Prop) : Post := fun o _ w => match o with | .normal => Kn  w | .exit _ => (False) | .ret => False
def F66_3 (Kn : World → Prop) (x0 : Value) (x1 : Value) (x4 : Value) (x5 : Value) (w : World) : Prop :=
  rdP x0 fun p1 => rdI .u32 x1 fun n2 => rdC x4 fun l3a l3n l3c => rdA x5 fun a4 => ldB (a4.add 3) w fun b5 => br b5 (stc (a4.add 1) (.int .u16 0) w fun w6 => F66_2 (fun w8 => ∀ _g9 : Tm, Kn w8) (.pointer p1) (.int .u32 n2) (.slice l3a l3n l3c) (.pointer (some a4)) w6) (F66_2 (fun w11 => ∀ _g12 : Tm, Kn w11) (.pointer p1) (.int .u32 n2) (.slice l3a l3n l3c) (.pointer (some a4)) w)
def F66_3O (Q : Post) (t : Tm) (w : World) : Prop := F66_3 (fun w => ∀ g, rsh [] (upds g []) fun t => Q .normal t w) (t 0) (t 1) (t 4) (t 5) w
theorem F66_3_step (Kn : World → Prop) (t : Tm) (w : World) : (F66_3 Kn (t 0) (t 1) (t 4) (t 5) w) = rsh [(0, (.one .ptr)), (1, (.one (.int .u32))), (4, (.one .slc)), (5, (.one .adr))] t (fun t => vc Try.prog (orcOf [([0, 1, 0, 1, 1, 1], F66_1O), ([1, 1, 1], F66_2O)]) [1, 1] (getAt F66_code [1, 1]) (F66_3C Kn) t w) := by kernel_rfl
theorem F66_3_ok : ∀ Q t w, F66_3O Q t w → W Try.prog Try.f66.ntmps (getAt F66_code [1, 1]) Q t w := by
  intro Q t w h
  unfold F66_3O at h
  rw [F66_3_step] at h
  refine (vc_sound mixed (orcCons (π := [0, 1, 0, 1, 1, 1]) F66_1_ok (orcCons (π := [1, 1, 1]) F66_2_ok (orcNil F66_code))) _ _ rfl (okC_at F66_code_ok [1, 1]) _ _ _ (rsh_out h)).mono ?_
  intro o t w q
  cases o with
  | normal => exact out_ok [] q
  | exit i => exact q.elim
  | ret => exact q.elim
def F66 (x0 : Value) (x1 : Value) (w : World) (K : Value → World → Prop) : Prop :=
  rdP x0 fun p1 => rdI .u32 x1 fun n2 => Calls Try.prog 64 #[(.pointer p1), (.int .u32 n2)] w fun e4 w3 => ∃ l5a l5n l5c, e4 = .returned (.slice l5a l5n l5c) ∧ (drw w3 fun w6 => ∃ w7 : World, Pres w7 w6 ∧ (ixS 15 l5a l5n 0 fun a8 => ldI .u16 (a8.add 3) w7 fun n9 => ixS 15 l5a l5n 0 fun a10 => ldI .u16 (a10.add 4) w7 fun n11 => ixS 15 l5a l5n 0 fun a12 => ldI .u32 (a12.add 5) w7 fun n13 => ixS 15 l5a l5n 0 fun a14 => ldR35 a14 w7 fun s15 => ((Calls Try.prog 65 #[s15.v, (.int .u8 4)] w6 fun e17 w16 => ∃ b18, e17 = .returned (.bool b18) ∧ (Pres w7 w16 ∧ (alc (.cells ((R38.mk 0 0 0 false none 0 0)).c 39) w16 fun b19 w20 => Pres w7 w20 ∧ (stcL (Addr.mk b19 0 none) 0 (R38.mk n9 n11 n13 b18 none 0 0).l w20 fun w21 => F66_3 (fun w23 => ∀ _g24 : Tm, K (.tuple #[]) w23) (.pointer p1) (.int .u32 n2) (.slice l5a l5n l5c) (.pointer (some (Addr.mk b19 0 none))) w21)))) ∧ (alc (.cells ((R38.mk 0 0 0 false none 0 0)).c 39) w6 fun b25 w26 => Pres w7 w26 ∧ (Calls Try.prog 65 #[s15.v, (.int .u8 4)] w26 fun e28 w27 => ∃ b29, e28 = .returned (.bool b29) ∧ (Pres w7 w27 ∧ (stcL (Addr.mk b25 0 none) 0 (R38.mk n9 n11 n13 b29 none 0 0).l w27 fun w30 => F66_3 (fun w32 => ∀ _g33 : Tm, K (.tuple #[]) w32) (.pointer p1) (.int .u32 n2) (.slice l5a l5n l5c) (.pointer (some (Addr.mk b25 0 none))) w30)))))))
theorem F66_step (x0 : Value) (x1 : Value) (w : World) (K : Value → World → Prop) : (F66 x0 x1 w K) = rsh [(0, (.one .ptr)), (1, (.one (.int .u32)))] (args0 #[x0, x1]) (fun t => vc Try.prog (orcOf [([0, 1, 0, 1, 1, 1], F66_1O), ([1, 1, 1], F66_2O), ([1, 1], F66_3O)]) [] F66_code (retQ Try.prog Try.f66 K) t w) := by kernel_rfl
theorem F66_ok {x0 x1 : Value} {w : World} {K : Value → World → Prop} (h : F66 x0 x1 w K) : Calls Try.prog 66 #[x0, x1] w fun e w' => ∃ v, e = .returned v ∧ K v w' := by
  rw [F66_step] at h
  exact calls_of (c := F66_code) mixed Try.func66 rfl (nlt rfl) (vc_sound mixed (orcCons (π := [0, 1, 0, 1, 1, 1]) F66_1_ok (orcCons (π := [1, 1, 1]) F66_2_ok (orcCons (π := [1, 1]) F66_3_ok (orcNil F66_code)))) F66_code [] rfl F66_code_ok _ _ _ (rsh_out h))

/-! ropewalk/ropewalkref20.without -/
noncomputable def F67_code : Code := Try.f67.body.getD .skip
theorem F67_code_ok : okC Try.prog Try.f67.ntmps F67_code = true := by kernel_rfl
def F67_1C (K0 : Value → World → Prop) : Post := fun o t w => match o with | .normal => False | .exit i => (match Nat.beq i 0 with | true => K0 (t 5) w | false => False) | .ret => False
def F67_1B (R : Value → Value → Value → Value → World → Prop) (K0 : Value → World → Prop) (x0 : Value) (x1 : Value) (x5 : Value) (x6 : Value) (w : World) : Prop :=
  rdC x0 fun l1a l1n l1c => rdI .u32 x1 fun n2 => rdC x5 fun l3a l3n l3c => rdI .i64 x6 fun n4 => br (decide ((n4 : Int) < (l1n : Int))) (ixS 15 l1a l1n n4 fun a5 => ldI .u32 (a5.add 2) w fun n6 => br (n6 != n2) (ixS 15 l1a l1n n4 fun a7 => ldR35 a7 w fun s8 => alc (.cells s8.c 36) w fun b9 w10 => ∃ l11a l11n l11c w12, Sem.run Try.prog (Builtin.append_ #[45, 45] 45 #[(.slice l3a l3n l3c), (.slice (some (Addr.mk b9 0 none)) 1 1)]) w10 = .ok (.slice l11a l11n l11c) w12 ∧ (R (.slice l1a l1n l1c) (.int .u32 n2) (.slice l11a l11n l11c) (.int .i64 (IntKind.wrap .i64 (n4 + 1))) w12)) (R (.slice l1a l1n l1c) (.int .u32 n2) (.slice l3a l3n l3c) (.int .i64 (IntKind.wrap .i64 (n4 + 1))) w)) (K0 (.slice l3a l3n l3c) w)
def F67_1 (K0 : Value → World → Prop) : Nat → Value → Value → Value → Value → World → Prop
  | 0 => fun _ _ _ _ _ => False
  | n + 1 => F67_1B (F67_1 K0 n) K0
def F67_1O (Q : Post) (t : Tm) (w : World) : Prop := ∃ n, F67_1 (fun y5 w => ∀ g, rsh [(5, (.one .slc))] (upds g [(5, y5)]) fun t => Q (.exit 0) t w) n (t 0) (t 1) (t 5) (t 6) w
theorem F67_1_step (K0 : Value → World → Prop) (n : Nat) (t : Tm) (w : World) : (F67_1 K0 (n + 1) (t 0) (t 1) (t 5) (t 6) w) = rsh [(0, (.one .slc)), (1, (.one (.int .u32))), (5, (.one .slc)), (6, (.one (.int .i64)))] t (fun t => vc Try.prog (orcOf []) [0, 0, 1, 0, 1, 1] (getAt F67_code [0, 0, 1, 0, 1, 1]) (fun o t w => match o with | .normal => F67_1 K0 n (t 0) (t 1) (t 5) (t 6) w | .exit i => F67_1C K0 (.exit i) t w | .ret => F67_1C K0 .ret t w) t w) := by kernel_rfl
theorem F67_1_ok : ∀ Q t w, F67_1O Q t w → W Try.prog Try.f67.ntmps (getAt F67_code [0, 1, 0, 1, 1]) Q t w := by
  intro Q t w ⟨n, h⟩
  refine (W_loop (P := Try.prog) (b := getAt F67_code [0, 0, 1, 0, 1, 1]) (Q := F67_1C (fun y5 w => ∀ g, rsh [(5, (.one .slc))] (upds g [(5, y5)]) fun t => Q (.exit 0) t w)) (G := fun n t w => F67_1 (fun y5 w => ∀ g, rsh [(5, (.one .slc))] (upds g [(5, y5)]) fun t => Q (.exit 0) t w) n (t 0) (t 1) (t 5) (t 6) w) (fun _ _ h => h) (fun n t w h => ?_) n t w h).mono ?_
  · rw [F67_1_step] at h
    exact vc_sound mixed (orcNil F67_code) _ _ rfl (okC_at F67_code_ok [0, 0, 1, 0, 1, 1]) _ _ _ (rsh_out h)
  · intro o t w q
    cases o with
    | normal => exact q.elim
    | exit i =>
      unfold F67_1C at q
      simp only at q
      split at q
      · rename_i hi
        rw [nbeq] at hi
        subst hi
        exact out_ok [5] q
      · exact q.elim
    | ret => exact q.elim
def F67 (x0 : Value) (x1 : Value) (w : World) (K : Value → World → Prop) : Prop :=
  rdC x0 fun l1a l1n l1c => rdI .u32 x1 fun n2 => ∃ k7 : Nat, F67_1 (fun y5_2 w4 => ∀ _g5 : Tm, rdC y5_2 fun l6a l6n l6c => K (.slice l6a l6n l6c) w4) k7 (.slice l1a l1n l1c) (.int .u32 n2) (.slice none 0 0) (.int .i64 0) w
theorem F67_step (x0 : Value) (x1 : Value) (w : World) (K : Value → World → Prop) : (F67 x0 x1 w K) = rsh [(0, (.one .slc)), (1, (.one (.int .u32)))] (args0 #[x0, x1]) (fun t => vc Try.prog (orcOf [([0, 1, 0, 1, 1], F67_1O)]) [] F67_code (retQ Try.prog Try.f67 K) t w) := by kernel_rfl
theorem F67_ok {x0 x1 : Value} {w : World} {K : Value → World → Prop} (h : F67 x0 x1 w K) : Calls Try.prog 67 #[x0, x1] w fun e w' => ∃ v, e = .returned v ∧ K v w' := by
  rw [F67_step] at h
  exact calls_of (c := F67_code) mixed Try.func67 rfl (nlt rfl) (vc_sound mixed (orcCons (π := [0, 1, 0, 1, 1]) F67_1_ok (orcNil F67_code)) F67_code [] rfl F67_code_ok _ _ _ (rsh_out h))

/-! ropewalk/ropewalkref01.Diff -/
noncomputable def F68_code : Code := Try.f68.body.getD .skip
theorem F68_code_ok : okC Try.prog Try.f68.ntmps F68_code = true := by kernel_rfl
def F68 (x0 : Value) (x1 : Value) (w : World) (K : Value → World → Prop) : Prop :=
  rdI .u32 x0 fun n1 => rdI .u32 x1 fun n2 => Calls Try.prog 90 #[(.int .i64 (IntKind.wrap .i64 (n1))), (.int .i64 (IntKind.wrap .i64 (n2))), (.int .i64 4294967296)] w fun e4 w3 => ∃ n5, e4 = .returned (.int .i64 n5) ∧ (K (.int .i64 n5) w3)
theorem F68_step (x0 : Value) (x1 : Value) (w : World) (K : Value → World → Prop) : (F68 x0 x1 w K) = rsh [(0, (.one (.int .u32))), (1, (.one (.int .u32)))] (args0 #[x0, x1]) (fun t => vc Try.prog (orcOf []) [] F68_code (retQ Try.prog Try.f68 K) t w) := by kernel_rfl
theorem F68_ok {x0 x1 : Value} {w : World} {K : Value → World → Prop} (h : F68 x0 x1 w K) : Calls Try.prog 68 #[x0, x1] w fun e w' => ∃ v, e = .returned v ∧ K v w' := by
  rw [F68_step] at h
  exact calls_of (c := F68_code) mixed Try.func68 rfl (nlt rfl) (vc_sound mixed (orcNil F68_code) F68_code [] rfl F68_code_ok _ _ _ (rsh_out h))

/-! slices.Index[[]uint32,uint32] -/
noncomputable def F69_code : Code := Try.f69.body.getD .skip
theorem F69_code_ok : okC Try.prog Try.f69.ntmps F69_code = true := by kernel_rfl
def F69_1C (K0 : World → Prop) (Kr : Value → World → Prop) : Post := fun o t w => match o with | .normal => False | .exit i => (match Nat.beq i 0 with | true => K0  w | false => False) | .ret => Kr (t 4) w
def F69_1B (R : Value → Value → Value → Value → World → Prop) (K0 : World → Prop) (Kr : Value → World → Prop) (x0 : Value) (x1 : Value) (x7 : Value) (x8 : Value) (w : World) : Prop :=
  rdC x0 fun l1a l1n l1c => rdI .u32 x1 fun n2 => rdI .i64 x7 fun n3 => rdI .i64 x8 fun n4 => br (decide ((n4 : Int) < n3)) (ixS 1 l1a l1n n4 fun a5 => ldI .u32 a5 w fun n6 => br (n2 == n6) (Kr (.int .i64 n4) w) (R (.slice l1a l1n l1c) (.int .u32 n2) (.int .i64 n3) (.int .i64 (IntKind.wrap .i64 (n4 + 1))) w)) (K0 w)
def F69_1 (K0 : World → Prop) (Kr : Value → World → Prop) : Nat → Value → Value → Value → Value → World → Prop
  | 0 => fun _ _ _ _ _ => False
  | n + 1 => F69_1B (F69_1 K0 Kr n) K0 Kr
def F69_1O (Q : Post) (t : Tm) (w : World) : Prop := ∃ n, F69_1 (fun w => ∀ g, rsh [] (upds g []) fun t => Q (.exit 0) t w) (fun y4 w => ∀ g, rsh [(4, (.one (.int .i64)))] (upds g [(4, y4)]) fun t => Q .ret t w) n (t 0) (t 1) (t 7) (t 8) w
theorem F69_1_step (K0 : World → Prop) (Kr : Value → World → Prop) (n : Nat) (t : Tm) (w : World) : (F69_1 K0 Kr (n + 1) (t 0) (t 1) (t 7) (t 8) w) = rsh [(0, (.one .slc)), (1, (.one (.int .u32))), (7, (.one (.int .i64))), (8, (.one (.int .i64)))] t (fun t => vc Try.prog (orcOf []) [0, 0, 1, 0, 1] (getAt F69_code [0, 0, 1, 0, 1]) (fun o t w => match o with | .normal => F69_1 K0 Kr n (t 0) (t 1) (t 7) (t 8) w | .exit i => F69_1C K0 Kr (.exit i) t w | .ret => F69_1C K0 Kr .ret t w) t w) := by kernel_rfl
theorem F69_1_ok : ∀ Q t w, F69_1O Q t w → W Try.prog Try.f69.ntmps (getAt F69_code [0, 1, 0, 1]) Q t w := by
  intro Q t w ⟨n, h⟩
  refine (W_loop (P := Try.prog) (b := getAt F69_code [0, 0, 1, 0, 1]) (Q := F69_1C (fun w => ∀ g, rsh [] (upds g []) fun t => Q (.exit 0) t w) (fun y4 w => ∀ g, rsh [(4, (.one (.int .i64)))] (upds g [(4, y4)]) fun t => Q .ret t w)) (G := fun n t w => F69_1 (fun w => ∀ g, rsh [] (upds g []) fun t => Q (.exit 0) t w) (fun y4 w => ∀ g, rsh [(4, (.one (.int .i64)))] (upds g [(4, y4)]) fun t => Q .ret t w) n (t 0) (t 1) (t 7) (t 8) w) (fun _ _ h => h) (fun n t w h => ?_) n t w h).mono ?_
  · rw [F69_1_step] at h
    exact vc_sound mixed (orcNil F69_code) _ _ rfl (okC_at F69_code_ok [0, 0, 1, 0, 1]) _ _ _ (rsh_out h)
  · intro o t w q
    cases o with
    | normal => exact q.elim
    | exit i =>
      unfold F69_1C at q
      simp only at q
      split at q
      · rename_i hi
        rw [nbeq] at hi
        subst hi
        exact out_ok [] q
      · exact q.elim
    | ret => exact out_ok [4] q
def F69 (x0 : Value) (x1 : Value) (w : World) (K : Value → World → Prop) : Prop :=
  rdC x0 fun l1a l1n l1c => rdI .u32 x1 fun n2 => ∃ k10 : Nat, F69_1 (fun w4 => ∀ _g5 : Tm, K (.int .i64 (-1)) w4) (fun y4_5 w7 => ∀ _g8 : Tm, rdI .i64 y4_5 fun n9 => K (.int .i64 n9) w7) k10 (.slice l1a l1n l1c) (.int .u32 n2) (.int .i64 (l1n : Int)) (.int .i64 0) w
theorem F69_step (x0 : Value) (x1 : Value) (w : World) (K : Value → World → Prop) : (F69 x0 x1 w K) = rsh [(0, (.one .slc)), (1, (.one (.int .u32)))] (args0 #[x0, x1]) (fun t => vc Try.prog (orcOf [([0, 1, 0, 1], F69_1O)]) [] F69_code (retQ Try.prog Try.f69 K) t w) := by kernel_rfl
theorem F69_ok {x0 x1 : Value} {w : World} {K : Value → World → Prop} (h : F69 x0 x1 w K) : Calls Try.prog 69 #[x0, x1] w fun e w' => ∃ v, e = .returned v ∧ K v w' := by
  rw [F69_step] at h
  exact calls_of (c := F69_code) mixed Try.func69 rfl (nlt rfl) (vc_sound mixed (orcCons (π := [0, 1, 0, 1]) F69_1_ok (orcNil F69_code)) F69_code [] rfl F69_code_ok _ _ _ (rsh_out h))

/-! ropewalk/ropewalkref20.less -/
noncomputable def F89_code : Code := Try.f89.body.getD .skip
theorem F89_code_ok : okC Try.prog Try.f89.ntmps F89_code = true := by kernel_rfl
def F89_1C (K0 : Value → World → Prop) : Post := fun o t w => match o with | .normal => False | .exit i => (match Nat.beq i 0 with | true => K0 (t 5) w | false => False) | .ret => False
def F89_1B (R : Value → Value → Value → Value → World → Prop) (K0 : Value → World → Prop) (x0 : Value) (x1 : Value) (x5 : Value) (x6 : Value) (w : World) : Prop :=
  rdC x0 fun l1a l1n l1c => rdI .u32 x1 fun n2 => rdC x5 fun l3a l3n l3c => rdI .i64 x6 fun n4 => br (decide ((n4 : Int) < (l1n : Int))) (ixS 1 l1a l1n n4 fun a5 => ldI .u32 a5 w fun n6 => br (n6 != n2) (ixS 1 l1a l1n n4 fun a7 => ldI .u32 a7 w fun n8 => alc (.cells #[(.int .u32 n8)] 30) w fun b9 w10 => ∃ l11a l11n l11c w12, Sem.run Try.prog (Builtin.append_ #[33, 33] 33 #[(.slice l3a l3n l3c), (.slice (some (Addr.mk b9 0 none)) 1 1)]) w10 = .ok (.slice l11a l11n l11c) w12 ∧ (R (.slice l1a l1n l1c) (.int .u32 n2) (.slice l11a l11n l11c) (.int .i64 (IntKind.wrap .i64 (n4 + 1))) w12)) (R (.slice l1a l1n l1c) (.int .u32 n2) (.slice l3a l3n l3c) (.int .i64 (IntKind.wrap .i64 (n4 + 1))) w)) (K0 (.slice l3a l3n l3c) w)
def F89_1 (K0 : Value → World → Prop) : Nat → Value → Value → Value → Value → World → Prop
  | 0 => fun _ _ _ _ _ => False
  | n + 1 => F89_1B (F89_1 K0 n) K0
def F89_1O (Q : Post) (t : Tm) (w : World) : Prop := ∃ n, F89_1 (fun y5 w => ∀ g, rsh [(5, (.one .slc))] (upds g [(5, y5)]) fun t => Q (.exit 0) t w) n (t 0) (t 1) (t 5) (t 6) w
theorem F89_1_step (K0 : Value → World → Prop) (n : Nat) (t : Tm) (w : World) : (F89_1 K0 (n + 1) (t 0) (t 1) (t 5) (t 6) w) = rsh [(0, (.one .slc)), (1, (.one (.int .u32))), (5, (.one .slc)), (6, (.one (.int .i64)))] t (fun t => vc Try.prog (orcOf []) [0, 0, 1, 0, 1, 1] (getAt F89_code [0, 0, 1, 0, 1, 1]) (fun o t w => match o with | .normal => F89_1 K0 n (t 0) (t 1) (t 5) (t 6) w | .exit i => F89_1C K0 (.exit i) t w | .ret => F89_1C K0 .ret t w) t w) := by kernel_rfl
theorem F89_1_ok : ∀ Q t w, F89_1O Q t w → W Try.prog Try.f89.ntmps (getAt F89_code [0, 1, 0, 1, 1]) Q t w := by
  intro Q t w ⟨n, h⟩
  refine (W_loop (P := Try.prog) (b := getAt F89_code [0, 0, 1, 0, 1, 1]) (Q := F89_1C (fun y5 w => ∀ g, rsh [(5, (.one .slc))] (upds g [(5, y5)]) fun t => Q (.exit 0) t w)) (G := fun n t w => F89_1 (fun y5 w => ∀ g, rsh [(5, (.one .slc))] (upds g [(5, y5)]) fun t => Q (.exit 0) t w) n (t 0) (t 1) (t 5) (t 6) w) (fun _ _ h => h) (fun n t w h => ?_) n t w h).mono ?_
  · rw [F89_1_step] at h
    exact vc_sound mixed (orcNil F89_code) _ _ rfl (okC_at F89_code_ok [0, 0, 1, 0, 1, 1]) _ _ _ (rsh_out h)
  · intro o t w q
    cases o with
    | normal => exact q.elim
    | exit i =>
      unfold F89_1C at q
      simp only at q
      split at q
      · rename_i hi
        rw [nbeq] at hi
        subst hi
        exact out_ok [5] q
      · exact q.elim
    | ret => exact q.elim
def F89 (x0 : Value) (x1 : Value) (w : World) (K : Value → World → Prop) : Prop :=
  rdC x0 fun l1a l1n l1c => rdI .u32 x1 fun n2 => ∃ k7 : Nat, F89_1 (fun y5_2 w4 => ∀ _g5 : Tm, rdC y5_2 fun l6a l6n l6c => K (.slice l6a l6n l6c) w4) k7 (.slice l1a l1n l1c) (.int .u32 n2) (.slice none 0 0) (.int .i64 0) w
theorem F89_step (x0 : Value) (x1 : Value) (w : World) (K : Value → World → Prop) : (F89 x0 x1 w K) = rsh [(0, (.one .slc)), (1, (.one (.int .u32)))] (args0 #[x0, x1]) (fun t => vc Try.prog (orcOf [([0, 1, 0, 1, 1], F89_1O)]) [] F89_code (retQ Try.prog Try.f89 K) t w) := by kernel_rfl
theorem F89_ok {x0 x1 : Value} {w : World} {K : Value → World → Prop} (h : F89 x0 x1 w K) : Calls Try.prog 89 #[x0, x1] w fun e w' => ∃ v, e = .returned v ∧ K v w' := by
  rw [F89_step] at h
  exact calls_of (c := F89_code) mixed Try.func89 rfl (nlt rfl) (vc_sound mixed (orcCons (π := [0, 1, 0, 1, 1]) F89_1_ok (orcNil F89_code)) F89_code [] rfl F89_code_ok _ _ _ (rsh_out h))

/-! ropewalk/ropewalkref01.diff -/
noncomputable def F90_code : Code := Try.f90.body.getD .skip
theorem F90_code_ok : okC Try.prog Try.f90.ntmps F90_code = true := by kernel_rfl
def F90 (x0 : Value) (x1 : Value) (x2 : Value) (w : World) (K : Value → World → Prop) : Prop :=
  rdI .i64 x0 fun n1 => rdI .i64 x1 fun n2 => rdI .i64 x2 fun n3 => nz n3 (br (decide (((Int.tmod (IntKind.wrap .i64 (n2 - n1)) n3) : Int) < 0)) (br (decide (((IntKind.wrap .i64 ((Int.tmod (IntKind.wrap .i64 (n2 - n1)) n3) + n3)) : Int) ≥ (IntKind.wrap .i64 (Int.tdiv n3 2)))) (K (.int .i64 (IntKind.wrap .i64 ((IntKind.wrap .i64 ((Int.tmod (IntKind.wrap .i64 (n2 - n1)) n3) + n3)) - n3))) w) (K (.int .i64 (IntKind.wrap .i64 ((Int.tmod (IntKind.wrap .i64 (n2 - n1)) n3) + n3))) w)) (br (decide (((Int.tmod (IntKind.wrap .i64 (n2 - n1)) n3) : Int) ≥ (IntKind.wrap .i64 (Int.tdiv n3 2)))) (K (.int .i64 (IntKind.wrap .i64 ((Int.tmod (IntKind.wrap .i64 (n2 - n1)) n3) - n3))) w) (K (.int .i64 (Int.tmod (IntKind.wrap .i64 (n2 - n1)) n3)) w)))
theorem F90_step (x0 : Value) (x1 : Value) (x2 : Value) (w : World) (K : Value → World → Prop) : (F90 x0 x1 x2 w K) = rsh [(0, (.one (.int .i64))), (1, (.one (.int .i64))), (2, (.one (.int .i64)))] (args0 #[x0, x1, x2]) (fun t => vc Try.prog (orcOf []) [] F90_code (retQ Try.prog Try.f90 K) t w) := by kernel_rfl
theorem F90_ok {x0 x1 x2 : Value} {w : World} {K : Value → World → Prop} (h : F90 x0 x1 x2 w K) : Calls Try.prog 90 #[x0, x1, x2] w fun e w' => ∃ v, e = .returned v ∧ K v w' := by
  rw [F90_step] at h
  exact calls_of (c := F90_code) mixed Try.func90 rfl (nlt rfl) (vc_sound mixed (orcNil F90_code) F90_code [] rfl F90_code_ok _ _ _ (rsh_out h))
end Go.Proofs.Ytaflmpbeonoilaa
