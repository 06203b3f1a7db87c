/- Own text: part of the shallow reading of the code and of the contracts that are proved over it. -/
import Derived.Test.YtccffjlahpfdaaaDoorShG
import Derived.Test.YtccffjlahpfdaaaDoorProg
import Derived.KernelRfl
namespace Go.Proofs.YtccffjlahpfdaaaDoor
open Go Go.Sh
set_option maxRecDepth 100000
theorem mixed : Tryd.prog.follows .mixedOrders = true := by kernel_rfl
/-! (*ropewalk/inbox.Box).Drop -/
noncomputable def F31_code : Code := Tryd.f31.body.getD .skip
theorem F31_code_ok : okC Tryd.prog Tryd.f31.ntmps F31_code = true := by kernel_rfl
def F31 (x0 : Value) (x1 : Value) (w : World) (K : Value → World → Prop) : Prop :=
  rdP x0 fun p1 => rdI .u32 x1 fun n2 => Calls Tryd.prog 34 #[(.pointer p1)] w fun e5 w4 => ∃ b3, e5 = .returned (.bool b3) ∧ (br b3 (Calls Tryd.prog 39 #[(.pointer p1), (.int .u32 n2)] w4 fun e8 w7 => ∃ b6, e8 = .returned (.bool b6) ∧ (br (!b6) (nn p1 fun a9 => ldP (a9.add 0) w7 fun p10 => Calls Tryd.prog 57 #[(.pointer p10), (.int .u32 n2)] w7 fun e13 w12 => ∃ b11, e13 = .returned (.bool b11) ∧ (K (.bool b11) w12)) (K (.bool false) w7))) (K (.bool false) w4))
theorem F31_step (x0 : Value) (x1 : Value) (w : World) (K : Value → World → Prop) : (F31 x0 x1 w K) = rsh [(0, (.one .ptr)), (1, (.one (.int .u32)))] (args0 #[x0, x1]) (fun t => vc Tryd.prog (orcOf []) [] F31_code (retQ Tryd.prog Tryd.f31 K) t w) := by kernel_rfl
theorem F31_ok {x0 x1 : Value} {w : World} {K : Value → World → Prop} (h : F31 x0 x1 w K) : Calls Tryd.prog 31 #[x0, x1] w fun e w' => ∃ v, e = .returned v ∧ K v w' := by
  rw [F31_step] at h
  exact calls_of (c := F31_code) mixed Tryd.func31 rfl (nlt rfl) (vc_sound mixed (orcNil F31_code) F31_code [] rfl F31_code_ok _ _ _ (rsh_out h))

/-! (*ropewalk/inbox.Box).Fixed -/
noncomputable def F32_code : Code := Tryd.f32.body.getD .skip
theorem F32_code_ok : okC Tryd.prog Tryd.f32.ntmps F32_code = true := by kernel_rfl
def F32 (x0 : Value) (w : World) (K : Value → World → Prop) : Prop :=
  rdP x0 fun p1 => alc (.cells #[(.pointer p1)] 25) w fun b2 w3 => ldP (Addr.mk b2 0 none) w3 fun p4 => Calls Tryd.prog 27 #[(.pointer p4)] w3 fun e7 w6 => ∃ l5a l5n l5c, e7 = .returned (.slice l5a l5n l5c) ∧ (Calls Tryd.prog 58 #[(.slice l5a l5n l5c), (.func (.func 59) #[] #[(.pointer (some (Addr.mk b2 0 none)))])] w6 fun e10 w9 => ∃ l8a l8n l8c, e10 = .returned (.slice l8a l8n l8c) ∧ (K (.slice l8a l8n l8c) w9))
theorem F32_step (x0 : Value) (w : World) (K : Value → World → Prop) : (F32 x0 w K) = rsh [(0, (.one .ptr))] (args0 #[x0]) (fun t => vc Tryd.prog (orcOf []) [] F32_code (retQ Tryd.prog Tryd.f32 K) t w) := by kernel_rfl
theorem F32_ok {x0 : Value} {w : World} {K : Value → World → Prop} (h : F32 x0 w K) : Calls Tryd.prog 32 #[x0] w fun e w' => ∃ v, e = .returned v ∧ K v w' := by
  rw [F32_step] at h
  exact calls_of (c := F32_code) mixed Tryd.func32 rfl (nlt rfl) (vc_sound mixed (orcNil F32_code) F32_code [] rfl F32_code_ok _ _ _ (rsh_out h))

/-! (*ropewalk/inbox.Box).Dups -/
noncomputable def F33_code : Code := Tryd.f33.body.getD .skip
theorem F33_code_ok : okC Tryd.prog Tryd.f33.ntmps F33_code = true := by kernel_rfl
def F33 (x0 : Value) (w : World) (K : Value → World → Prop) : Prop :=
  rdP x0 fun p1 => Calls Tryd.prog 34 #[(.pointer p1)] w fun e4 w3 => ∃ b2, e4 = .returned (.bool b2) ∧ (br (!b2) (K (.slice none 0 0) w3) (nn p1 fun a5 => ldC (a5.add 2) w3 fun l6a l6n l6c => Calls Tryd.prog 51 #[(.slice l6a l6n l6c)] w3 fun e9 w8 => ∃ l7a l7n l7c, e9 = .returned (.slice l7a l7n l7c) ∧ (K (.slice l7a l7n l7c) w8)))
theorem F33_step (x0 : Value) (w : World) (K : Value → World → Prop) : (F33 x0 w K) = rsh [(0, (.one .ptr))] (args0 #[x0]) (fun t => vc Tryd.prog (orcOf []) [] F33_code (retQ Tryd.prog Tryd.f33 K) t w) := by kernel_rfl
theorem F33_ok {x0 : Value} {w : World} {K : Value → World → Prop} (h : F33 x0 w K) : Calls Tryd.prog 33 #[x0] w fun e w' => ∃ v, e = .returned v ∧ K v w' := by
  rw [F33_step] at h
  exact calls_of (c := F33_code) mixed Tryd.func33 rfl (nlt rfl) (vc_sound mixed (orcNil F33_code) F33_code [] rfl F33_code_ok _ _ _ (rsh_out h))

/-! (*ropewalk/inbox.Box).ok -/
noncomputable def F34_code : Code := Tryd.f34.body.getD .skip
theorem F34_code_ok : okC Tryd.prog Tryd.f34.ntmps F34_code = true := by kernel_rfl
def F34 (x0 : Value) (w : World) (K : Value → World → Prop) : Prop :=
  rdP x0 fun p1 => br (!(Option.isNone p1)) (nn p1 fun a2 => ldP (a2.add 0) w fun p3 => K (.bool (!(Option.isNone p3))) w) (K (.bool false) w)
theorem F34_step (x0 : Value) (w : World) (K : Value → World → Prop) : (F34 x0 w K) = rsh [(0, (.one .ptr))] (args0 #[x0]) (fun t => vc Tryd.prog (orcOf []) [] F34_code (retQ Tryd.prog Tryd.f34 K) t w) := by kernel_rfl
theorem F34_ok {x0 : Value} {w : World} {K : Value → World → Prop} (h : F34 x0 w K) : Calls Tryd.prog 34 #[x0] w fun e w' => ∃ v, e = .returned v ∧ K v w' := by
  rw [F34_step] at h
  exact calls_of (c := F34_code) mixed Tryd.func34 rfl (nlt rfl) (vc_sound mixed (orcNil F34_code) F34_code [] rfl F34_code_ok _ _ _ (rsh_out h))

/-! (*ropewalk/spans.Set).Cum -/
noncomputable def F35_code : Code := Tryd.f35.body.getD .skip
theorem F35_code_ok : okC Tryd.prog Tryd.f35.ntmps F35_code = true := by kernel_rfl
def F35 (x0 : Value) (w : World) (K : Value → World → Prop) : Prop :=
  rdP x0 fun p1 => Calls Tryd.prog 60 #[(.pointer p1)] w fun e4 w3 => ∃ b2, e4 = .returned (.bool b2) ∧ (br (!b2) (K (.int .u32 0) w3) (nn p1 fun a5 => ldI .u32 (a5.add 2) w3 fun n6 => K (.int .u32 n6) w3))
theorem F35_step (x0 : Value) (w : World) (K : Value → World → Prop) : (F35 x0 w K) = rsh [(0, (.one .ptr))] (args0 #[x0]) (fun t => vc Tryd.prog (orcOf []) [] F35_code (retQ Tryd.prog Tryd.f35 K) t w) := by kernel_rfl
theorem F35_ok {x0 : Value} {w : World} {K : Value → World → Prop} (h : F35 x0 w K) : Calls Tryd.prog 35 #[x0] w fun e w' => ∃ v, e = .returned v ∧ K v w' := by
  rw [F35_step] at h
  exact calls_of (c := F35_code) mixed Tryd.func35 rfl (nlt rfl) (vc_sound mixed (orcNil F35_code) F35_code [] rfl F35_code_ok _ _ _ (rsh_out h))

/-! (*ropewalk/spans.Set).Add -/
noncomputable def F36_code : Code := Tryd.f36.body.getD .skip
theorem F36_code_ok : okC Tryd.prog Tryd.f36.ntmps F36_code = true := by kernel_rfl
def F36_1C (K1 : Value → Value → World → Prop) : Post := fun o t w => match o with | .normal => False | .exit i => (match Nat.beq i 1 with | true => K1 (t 0) (t 7) w | false => False) | .ret => False
def F36_1B (R : Value → Value → World → Prop) (K1 : Value → Value → World → Prop) (x0 : Value) (x7 : Value) (w : World) : Prop :=
  rdP x0 fun p1 => rdI .i64 x7 fun n2 => br (decide ((n2 : Int) < 65535)) (nn p1 fun a3 => Calls Tryd.prog 63 #[(.pointer (some (a3.add 0))), (.int .i64 (IntKind.wrap .i64 (n2 + 1)))] w fun e6 w5 => ∃ b4, e6 = .returned (.bool b4) ∧ (br b4 (R (.pointer p1) (.int .i64 (IntKind.wrap .i64 (n2 + 1))) w5) (K1 (.pointer p1) (.int .i64 n2) w5))) (K1 (.pointer p1) (.int .i64 n2) w)
def F36_1 (K1 : Value → Value → World → Prop) : Nat → Value → Value → World → Prop
  | 0 => fun _ _ _ => False
  | n + 1 => F36_1B (F36_1 K1 n) K1
def F36_1O (Q : Post) (t : Tm) (w : World) : Prop := ∃ n, F36_1 (fun y0 y7 w => ∀ g, rsh [(0, (.one .ptr)), (7, (.one (.int .i64)))] (upds g [(0, y0), (7, y7)]) fun t => Q (.exit 1) t w) n (t 0) (t 7) w
theorem F36_1_step (K1 : Value → Value → World → Prop) (n : Nat) (t : Tm) (w : World) : (F36_1 K1 (n + 1) (t 0) (t 7) w) = rsh [(0, (.one .ptr)), (7, (.one (.int .i64)))] t (fun t => vc Tryd.prog (orcOf []) [0, 0, 0, 1, 1, 1, 1, 1] (getAt F36_code [0, 0, 0, 1, 1, 1, 1, 1]) (fun o t w => match o with | .normal => F36_1 K1 n (t 0) (t 7) w | .exit i => F36_1C K1 (.exit i) t w | .ret => F36_1C K1 .ret t w) t w) := by kernel_rfl
theorem F36_1_ok : ∀ Q t w, F36_1O Q t w → W Tryd.prog Tryd.f36.ntmps (getAt F36_code [0, 0, 1, 1, 1, 1, 1]) Q t w := by
  intro Q t w ⟨n, h⟩
  refine (W_loop (P := Tryd.prog) (b := getAt F36_code [0, 0, 0, 1, 1, 1, 1, 1]) (Q := F36_1C (fun y0 y7 w => ∀ g, rsh [(0, (.one .ptr)), (7, (.one (.int .i64)))] (upds g [(0, y0), (7, y7)]) fun t => Q (.exit 1) t w)) (G := fun n t w => F36_1 (fun y0 y7 w => ∀ g, rsh [(0, (.one .ptr)), (7, (.one (.int .i64)))] (upds g [(0, y0), (7, y7)]) fun t => Q (.exit 1) t w) n (t 0) (t 7) w) (fun _ _ h => h) (fun n t w h => ?_) n t w h).mono ?_
  · rw [F36_1_step] at h
    exact vc_sound mixed (orcNil F36_code) _ _ rfl (okC_at F36_code_ok [0, 0, 0, 1, 1, 1, 1, 1]) _ _ _ (rsh_out h)
  · intro o t w q
    cases o with
    | normal => exact q.elim
    | exit i =>
      unfold F36_1C at q
      simp only at q
      split at q
      · rename_i hi
        rw [nbeq] at hi
        subst hi
        exact out_ok [0, 7] q
      · exact q.elim
    | ret => exact q.elim
def F36 (x0 : Value) (x1 : Value) (w : World) (K : Value → World → Prop) : Prop :=
  rdP x0 fun p1 => rdI .u32 x1 fun n2 => Calls Tryd.prog 60 #[(.pointer p1)] w fun e5 w4 => ∃ b3, e5 = .returned (.bool b3) ∧ (br (!b3) (K (.tuple #[(.bool false), (.int .i64 4)]) w4) (nn p1 fun a6 => ldI .u32 (a6.add 2) w4 fun n7 => Calls Tryd.prog 61 #[(.int .u32 n7), (.int .u32 n2)] w4 fun e10 w9 => ∃ n8, e10 = .returned (.int .i64 n8) ∧ (br (decide ((n8 : Int) ≤ 0)) (K (.tuple #[(.bool false), (.int .i64 0)]) w9) (br (decide ((n8 : Int) > 65535)) (K (.tuple #[(.bool false), (.int .i64 31)]) w9) (br (decide ((n8 : Int) > 1)) (nn p1 fun a11 => Calls Tryd.prog 62 #[(.pointer (some (a11.add 0))), (.int .i64 n8)] w9 fun e14 w13 => ∃ b12, e14 = .returned (.bool b12) ∧ (K (.tuple #[(.bool b12), (.int .i64 0)]) w13)) (∃ k22 : Nat, F36_1 (fun y0_14 y7_14 w16 => ∀ _g17 : Tm, rdP y0_14 fun p18 => rdI .i64 y7_14 fun n19 => Calls Tryd.prog 64 #[(.pointer p18), (.int .i64 n19)] w16 fun e21 w20 => e21 = .returned (.tuple #[]) ∧ (K (.tuple #[(.bool true), (.int .i64 0)]) w20)) k22 (.pointer p1) (.int .i64 1) w9))))))
theorem F36_step (x0 : Value) (x1 : Value) (w : World) (K : Value → World → Prop) : (F36 x0 x1 w K) = rsh [(0, (.one .ptr)), (1, (.one (.int .u32)))] (args0 #[x0, x1]) (fun t => vc Tryd.prog (orcOf [([0, 0, 1, 1, 1, 1, 1], F36_1O)]) [] F36_code (retQ Tryd.prog Tryd.f36 K) t w) := by kernel_rfl
theorem F36_ok {x0 x1 : Value} {w : World} {K : Value → World → Prop} (h : F36 x0 x1 w K) : Calls Tryd.prog 36 #[x0, x1] w fun e w' => ∃ v, e = .returned v ∧ K v w' := by
  rw [F36_step] at h
  exact calls_of (c := F36_code) mixed Tryd.func36 rfl (nlt rfl) (vc_sound mixed (orcCons (π := [0, 0, 1, 1, 1, 1, 1]) F36_1_ok (orcNil F36_code)) F36_code [] rfl F36_code_ok _ _ _ (rsh_out h))

/-! (*ropewalk/ropewalkref03.Set).Add -/
noncomputable def F37_code : Code := Tryd.f37.body.getD .skip
theorem F37_code_ok : okC Tryd.prog Tryd.f37.ntmps F37_code = true := by kernel_rfl
def F37_1C (K4 : World → Prop) : Post := fun o t w => match o with | .normal => False | .exit i => (match Nat.beq i 4 with | true => K4  w | false => False) | .ret => False
def F37_1B (R : Value → Value → Value → Value → World → Prop) (K4 : World → Prop) (x0 : Value) (x7 : Value) (x10 : Value) (x11 : Value) (w : World) : Prop :=
  rdP x0 fun p1 => rdC x7 fun l2a l2n l2c => rdI .i64 x10 fun n3 => rdI .i64 x11 fun n4 => br (decide ((n4 : Int) < (l2n : Int))) (drw w fun w5 => nn p1 fun a6 => ldC (a6.add 1) w5 fun l7a l7n l7c => ixS 1 l2a l2n n4 fun a8 => ldI .i64 a8 w5 fun n9 => alc (.cells #[(.int .i64 (IntKind.wrap .i64 (n9 - n3)))] 3) w5 fun b10 w11 => Pres w5 w11 ∧ (∃ l12a l12n l12c w13, Sem.run Tryd.prog (Builtin.append_ #[30, 30] 30 #[(.slice l7a l7n l7c), (.slice (some (Addr.mk b10 0 none)) 1 1)]) w11 = .ok (.slice l12a l12n l12c) w13 ∧ (nn p1 fun a14 => stc (a14.add 1) (.slice l12a l12n l12c) w13 fun w15 => R (.pointer p1) (.slice l2a l2n l2c) (.int .i64 n3) (.int .i64 (IntKind.wrap .i64 (n4 + 1))) w15))) (K4 w)
def F37_1 (K4 : World → Prop) : Nat → Value → Value → Value → Value → World → Prop
  | 0 => fun _ _ _ _ _ => False
  | n + 1 => F37_1B (F37_1 K4 n) K4
def F37_1O (Q : Post) (t : Tm) (w : World) : Prop := ∃ n, F37_1 (fun w => ∀ g, rsh [] (upds g []) fun t => Q (.exit 4) t w) n (t 0) (t 7) (t 10) (t 11) w
theorem F37_1_step (K4 : World → Prop) (n : Nat) (t : Tm) (w : World) : (F37_1 K4 (n + 1) (t 0) (t 7) (t 10) (t 11) w) = rsh [(0, (.one .ptr)), (7, (.one .slc)), (10, (.one (.int .i64))), (11, (.one (.int .i64)))] t (fun t => vc Tryd.prog (orcOf []) [0, 0, 1, 0, 1, 1, 1, 1, 1, 1, 1, 1, 1, 1, 1, 1] (getAt F37_code [0, 0, 1, 0, 1, 1, 1, 1, 1, 1, 1, 1, 1, 1, 1, 1]) (fun o t w => match o with | .normal => F37_1 K4 n (t 0) (t 7) (t 10) (t 11) w | .exit i => F37_1C K4 (.exit i) t w | .ret => F37_1C K4 .ret t w) t w) := by kernel_rfl
theorem F37_1_ok : ∀ Q t w, F37_1O Q t w → W Tryd.prog Tryd.f37.ntmps (getAt F37_code [0, 1, 0, 1, 1, 1, 1, 1, 1, 1, 1, 1, 1, 1, 1]) Q t w := by
  intro Q t w ⟨n, h⟩
  refine (W_loop (P := Tryd.prog) (b := getAt F37_code [0, 0, 1, 0, 1, 1, 1, 1, 1, 1, 1, 1, 1, 1, 1, 1]) (Q := F37_1C (fun w => ∀ g, rsh [] (upds g []) fun t => Q (.exit 4) t w)) (G := fun n t w => F37_1 (fun w => ∀ g, rsh [] (upds g []) fun t => Q (.exit 4) t w) n (t 0) (t 7) (t 10) (t 11) w) (fun _ _ h => h) (fun n t w h => ?_) n t w h).mono ?_
  · rw [F37_1_step] at h
    exact vc_sound mixed (orcNil F37_code) _ _ rfl (okC_at F37_code_ok [0, 0, 1, 0, 1, 1, 1, 1, 1, 1, 1, 1, 1, 1, 1, 1]) _ _ _ (rsh_out h)
  · intro o t w q
    cases o with
    | normal => exact q.elim
    | exit i =>
      unfold F37_1C at q
      simp only at q
      split at q
      · rename_i hi
        rw [nbeq] at hi
        subst hi
        exact out_ok [] q
      · exact q.elim
    | ret => exact q.elim
def F37_2C (Kn : Value → Value → Value → Value → Value → World → Prop) : Post := fun o t w => match o with | .normal => Kn (t 0) (t 6) (t 7) (t 8) (t 9) w | .exit i => (False) | .ret => False
def F37_2 (Kn : Value → Value → Value → Value → Value → World → Prop) (x0 : Value) (x6 : Value) (x7 : Value) (x8 : Value) (x9 : Value) (w : World) : Prop :=
  rdP x0 fun p1 => rdI .i64 x6 fun n2 => rdC x7 fun l3a l3n l3c => rdB x8 fun b4 => rdI .i64 x9 fun n5 => nn p1 fun a6 => ldC (a6.add 1) w fun l7a l7n l7c => ixS 1 l7a l7n n5 fun a8 => ldI .i64 a8 w fun n9 => alc (.cells #[(.int .i64 n9)] 3) w fun b10 w11 => ∃ l12a l12n l12c w13, Sem.run Tryd.prog (Builtin.append_ #[30, 30] 30 #[(.slice l3a l3n l3c), (.slice (some (Addr.mk b10 0 none)) 1 1)]) w11 = .ok (.slice l12a l12n l12c) w13 ∧ (Kn (.pointer p1) (.int .i64 n2) (.slice l12a l12n l12c) (.bool b4) (.int .i64 n5) w13)
def F37_2O (Q : Post) (t : Tm) (w : World) : Prop := F37_2 (fun y0 y6 y7 y8 y9 w => ∀ g, rsh [(0, (.one .ptr)), (6, (.one (.int .i64))), (7, (.one .slc)), (8, (.one .bool)), (9, (.one (.int .i64)))] (upds g [(0, y0), (6, y6), (7, y7), (8, y8), (9, y9)]) fun t => Q .normal t w) (t 0) (t 6) (t 7) (t 8) (t 9) w
theorem F37_2_step (Kn : Value → Value → Value → Value → Value → World → Prop) (t : Tm) (w : World) : (F37_2 Kn (t 0) (t 6) (t 7) (t 8) (t 9) w) = rsh [(0, (.one .ptr)), (6, (.one (.int .i64))), (7, (.one .slc)), (8, (.one .bool)), (9, (.one (.int .i64)))] t (fun t => vc Tryd.prog (orcOf []) [1, 0, 0, 1, 0, 0, 1, 0, 1, 1, 1, 1, 1, 1] (getAt F37_code [1, 0, 0, 1, 0, 0, 1, 0, 1, 1, 1, 1, 1, 1]) (F37_2C Kn) t w) := by kernel_rfl
theorem F37_2_ok : ∀ Q t w, F37_2O Q t w → W Tryd.prog Tryd.f37.ntmps (getAt F37_code [1, 0, 0, 1, 0, 0, 1, 0, 1, 1, 1, 1, 1, 1]) Q t w := by
  intro Q t w h
  unfold F37_2O at h
  rw [F37_2_step] at h
  refine (vc_sound mixed (orcNil F37_code) _ _ rfl (okC_at F37_code_ok [1, 0, 0, 1, 0, 0, 1, 0, 1, 1, 1, 1, 1, 1]) _ _ _ (rsh_out h)).mono ?_
  intro o t w q
  cases o with
  | normal => exact out_ok [0, 6, 7, 8, 9] q
  | exit i => exact q.elim
  | ret => exact q.elim
def F37_3C (K2 : Value → Value → Value → World → Prop) : Post := fun o t w => match o with | .normal => False | .exit i => (match Nat.beq i 2 with | true => K2 (t 0) (t 7) (t 10) w | false => False) | .ret => False
def F37_3B (R : Value → Value → Value → World → Prop) (K2 : Value → Value → Value → World → Prop) (x0 : Value) (x7 : Value) (x10 : Value) (w : World) : Prop :=
  rdP x0 fun p1 => rdC x7 fun l2a l2n l2c => rdI .i64 x10 fun n3 => br (decide ((n3 : Int) < (l2n : Int))) (ixS 1 l2a l2n n3 fun a4 => ldI .i64 a4 w fun n5 => br (n5 == (IntKind.wrap .i64 (n3 + 1))) (R (.pointer p1) (.slice l2a l2n l2c) (.int .i64 (IntKind.wrap .i64 (n3 + 1))) w) (K2 (.pointer p1) (.slice l2a l2n l2c) (.int .i64 n3) w)) (K2 (.pointer p1) (.slice l2a l2n l2c) (.int .i64 n3) w)
def F37_3 (K2 : Value → Value → Value → World → Prop) : Nat → Value → Value → Value → World → Prop
  | 0 => fun _ _ _ _ => False
  | n + 1 => F37_3B (F37_3 K2 n) K2
def F37_3O (Q : Post) (t : Tm) (w : World) : Prop := ∃ n, F37_3 (fun y0 y7 y10 w => ∀ g, rsh [(0, (.one .ptr)), (7, (.one .slc)), (10, (.one (.int .i64)))] (upds g [(0, y0), (7, y7), (10, y10)]) fun t => Q (.exit 2) t w) n (t 0) (t 7) (t 10) w
theorem F37_3_step (K2 : Value → Value → Value → World → Prop) (n : Nat) (t : Tm) (w : World) : (F37_3 K2 (n + 1) (t 0) (t 7) (t 10) w) = rsh [(0, (.one .ptr)), (7, (.one .slc)), (10, (.one (.int .i64)))] t (fun t => vc Tryd.prog (orcOf []) [0, 0, 0, 1, 1, 1, 1, 1, 1, 1, 1, 1] (getAt F37_code [0, 0, 0, 1, 1, 1, 1, 1, 1, 1, 1, 1]) (fun o t w => match o with | .normal => F37_3 K2 n (t 0) (t 7) (t 10) w | .exit i => F37_3C K2 (.exit i) t w | .ret => F37_3C K2 .ret t w) t w) := by kernel_rfl
theorem F37_3_ok : ∀ Q t w, F37_3O Q t w → W Tryd.prog Tryd.f37.ntmps (getAt F37_code [0, 0, 1, 1, 1, 1, 1, 1, 1, 1, 1]) Q t w := by
  intro Q t w ⟨n, h⟩
  refine (W_loop (P := Tryd.prog) (b := getAt F37_code [0, 0, 0, 1, 1, 1, 1, 1, 1, 1, 1, 1]) (Q := F37_3C (fun y0 y7 y10 w => ∀ g, rsh [(0, (.one .ptr)), (7, (.one .slc)), (10, (.one (.int .i64)))] (upds g [(0, y0), (7, y7), (10, y10)]) fun t => Q (.exit 2) t w)) (G := fun n t w => F37_3 (fun y0 y7 y10 w => ∀ g, rsh [(0, (.one .ptr)), (7, (.one .slc)), (10, (.one (.int .i64)))] (upds g [(0, y0), (7, y7), (10, y10)]) fun t => Q (.exit 2) t w) n (t 0) (t 7) (t 10) w) (fun _ _ h => h) (fun n t w h => ?_) n t w h).mono ?_
  · rw [F37_3_step] at h
    exact vc_sound mixed (orcNil F37_code) _ _ rfl (okC_at F37_code_ok [0, 0, 0, 1, 1, 1, 1, 1, 1, 1, 1, 1]) _ _ _ (rsh_out h)
  · intro o t w q
    cases o with
    | normal => exact q.elim
    | exit i =>
      unfold F37_3C at q
      simp only at q
      split at q
      · rename_i hi
        rw [nbeq] at hi
        subst hi
        exact out_ok [0, 7, 10] q
      · exact q.elim
    | ret => exact q.elim
def F37_4C (K0 : Value → Value → Value → Value → World → Prop) : Post := fun o t w => match o with | .normal => False | .exit i => (match Nat.beq i 0 with | true => K0 (t 0) (t 6) (t 7) (t 8) w | false => False) | .ret => False
def F37_4B (R : Value → Value → Value → Value → Value → World → Prop) (K0 : Value → Value → Value → Value → World → Prop) (x0 : Value) (x6 : Value) (x7 : Value) (x8 : Value) (x9 : Value) (w : World) : Prop :=
  rdP x0 fun p1 => rdI .i64 x6 fun n2 => rdC x7 fun l3a l3n l3c => rdB x8 fun b4 => rdI .i64 x9 fun n5 => nn p1 fun a6 => ldC (a6.add 1) w fun l7a l7n l7c => br (decide ((n5 : Int) < (l7n : Int))) (br (!b4) (nn p1 fun a8 => ldC (a8.add 1) w fun l9a l9n l9c => ixS 1 l9a l9n n5 fun a10 => ldI .i64 a10 w fun n11 => br (decide ((n2 : Int) < n11)) (alc (.cells #[(.int .i64 n2)] 3) w fun b12 w13 => ∃ l14a l14n l14c w15, Sem.run Tryd.prog (Builtin.append_ #[30, 30] 30 #[(.slice l3a l3n l3c), (.slice (some (Addr.mk b12 0 none)) 1 1)]) w13 = .ok (.slice l14a l14n l14c) w15 ∧ (F37_2 (fun y0_15 y6_15 y7_15 y8_15 y9_15 w17 => ∀ _g18 : Tm, rdP y0_15 fun p19 => rdI .i64 y6_15 fun n20 => rdC y7_15 fun l21a l21n l21c => rdB y8_15 fun b22 => rdI .i64 y9_15 fun n23 => R (.pointer p19) (.int .i64 n20) (.slice l21a l21n l21c) (.bool b22) (.int .i64 (IntKind.wrap .i64 (n23 + 1))) w17) (.pointer p1) (.int .i64 n2) (.slice l14a l14n l14c) (.bool true) (.int .i64 n5) w15)) (F37_2 (fun y0_23 y6_23 y7_23 y8_23 y9_23 w25 => ∀ _g26 : Tm, rdP y0_23 fun p27 => rdI .i64 y6_23 fun n28 => rdC y7_23 fun l29a l29n l29c => rdB y8_23 fun b30 => rdI .i64 y9_23 fun n31 => R (.pointer p27) (.int .i64 n28) (.slice l29a l29n l29c) (.bool b30) (.int .i64 (IntKind.wrap .i64 (n31 + 1))) w25) (.pointer p1) (.int .i64 n2) (.slice l3a l3n l3c) (.bool b4) (.int .i64 n5) w)) (F37_2 (fun y0_31 y6_31 y7_31 y8_31 y9_31 w33 => ∀ _g34 : Tm, rdP y0_31 fun p35 => rdI .i64 y6_31 fun n36 => rdC y7_31 fun l37a l37n l37c => rdB y8_31 fun b38 => rdI .i64 y9_31 fun n39 => R (.pointer p35) (.int .i64 n36) (.slice l37a l37n l37c) (.bool b38) (.int .i64 (IntKind.wrap .i64 (n39 + 1))) w33) (.pointer p1) (.int .i64 n2) (.slice l3a l3n l3c) (.bool b4) (.int .i64 n5) w)) (K0 (.pointer p1) (.int .i64 n2) (.slice l3a l3n l3c) (.bool b4) w)
def F37_4 (K0 : Value → Value → Value → Value → World → Prop) : Nat → Value → Value → Value → Value → Value → World → Prop
  | 0 => fun _ _ _ _ _ _ => False
  | n + 1 => F37_4B (F37_4 K0 n) K0
def F37_4O (Q : Post) (t : Tm) (w : World) : Prop := ∃ n, F37_4 (fun y0 y6 y7 y8 w => ∀ g, rsh [(0, (.one .ptr)), (6, (.one (.int .i64))), (7, (.one .slc)), (8, (.one .bool))] (upds g [(0, y0), (6, y6), (7, y7), (8, y8)]) fun t => Q (.exit 0) t w) n (t 0) (t 6) (t 7) (t 8) (t 9) w
theorem F37_4_step (K0 : Value → Value → Value → Value → World → Prop) (n : Nat) (t : Tm) (w : World) : (F37_4 K0 (n + 1) (t 0) (t 6) (t 7) (t 8) (t 9) w) = rsh [(0, (.one .ptr)), (6, (.one (.int .i64))), (7, (.one .slc)), (8, (.one .bool)), (9, (.one (.int .i64)))] t (fun t => vc Tryd.prog (orcOf [([1, 0, 0, 1, 0, 0, 1, 0, 1, 1, 1, 1, 1, 1], F37_2O)]) [0, 0, 1, 0, 1, 1, 1, 1, 1, 1] (getAt F37_code [0, 0, 1, 0, 1, 1, 1, 1, 1, 1]) (fun o t w => match o with | .normal => F37_4 K0 n (t 0) (t 6) (t 7) (t 8) (t 9) w | .exit i => F37_4C K0 (.exit i) t w | .ret => F37_4C K0 .ret t w) t w) := by kernel_rfl
theorem F37_4_ok : ∀ Q t w, F37_4O Q t w → W Tryd.prog Tryd.f37.ntmps (getAt F37_code [0, 1, 0, 1, 1, 1, 1, 1, 1]) Q t w := by
  intro Q t w ⟨n, h⟩
  refine (W_loop (P := Tryd.prog) (b := getAt F37_code [0, 0, 1, 0, 1, 1, 1, 1, 1, 1]) (Q := F37_4C (fun y0 y6 y7 y8 w => ∀ g, rsh [(0, (.one .ptr)), (6, (.one (.int .i64))), (7, (.one .slc)), (8, (.one .bool))] (upds g [(0, y0), (6, y6), (7, y7), (8, y8)]) fun t => Q (.exit 0) t w)) (G := fun n t w => F37_4 (fun y0 y6 y7 y8 w => ∀ g, rsh [(0, (.one .ptr)), (6, (.one (.int .i64))), (7, (.one .slc)), (8, (.one .bool))] (upds g [(0, y0), (6, y6), (7, y7), (8, y8)]) fun t => Q (.exit 0) t w) n (t 0) (t 6) (t 7) (t 8) (t 9) w) (fun _ _ h => h) (fun n t w h => ?_) n t w h).mono ?_
  · rw [F37_4_step] at h
    exact vc_sound mixed (orcCons (π := [1, 0, 0, 1, 0, 0, 1, 0, 1, 1, 1, 1, 1, 1]) F37_2_ok (orcNil F37_code)) _ _ rfl (okC_at F37_code_ok [0, 0, 1, 0, 1, 1, 1, 1, 1, 1]) _ _ _ (rsh_out h)
  · intro o t w q
    cases o with
    | normal => exact q.elim
    | exit i =>
      unfold F37_4C at q
      simp only at q
      split at q
      · rename_i hi
        rw [nbeq] at hi
        subst hi
        exact out_ok [0, 6, 7, 8] q
      · exact q.elim
    | ret => exact q.elim
def F37_5C (Kr : Value → Value → World → Prop) : Post := fun o t w => match o with | .normal => False | .exit i => (False) | .ret => Kr (t 4) (t 5) w
def F37_5 (Kr : Value → Value → World → Prop) (x0 : Value) (x7 : Value) (w : World) : Prop :=
  rdP x0 fun p1 => rdC x7 fun l2a l2n l2c => ∃ k22 : Nat, F37_3 (fun y0_2 y7_2 y10_2 w4 => ∀ _g5 : Tm, rdP y0_2 fun p6 => rdC y7_2 fun l7a l7n l7c => rdI .i64 y10_2 fun n8 => nn p6 fun a9 => ldI .u32 (a9.add 0) w4 fun n10 => Calls Tryd.prog 9 #[(.int .u32 n10), (.int .u32 (IntKind.wrap .u32 (n8)))] w4 fun e13 w12 => ∃ n11, e13 = .returned (.int .u32 n11) ∧ (nn p6 fun a14 => stc (a14.add 0) (.int .u32 n11) w12 fun w15 => nn p6 fun a16 => stc (a16.add 1) (.slice none 0 0) w15 fun w17 => ∃ k21 : Nat, F37_1 (fun w19 => ∀ _g20 : Tm, Kr (.bool true) (.int .i64 0) w19) k21 (.pointer p6) (.slice l7a l7n l7c) (.int .i64 n8) (.int .i64 n8) w17)) k22 (.pointer p1) (.slice l2a l2n l2c) (.int .i64 0) w
def F37_5O (Q : Post) (t : Tm) (w : World) : Prop := F37_5 (fun y4 y5 w => ∀ g, rsh [(4, (.one .bool)), (5, (.one (.int .i64)))] (upds g [(4, y4), (5, y5)]) fun t => Q .ret t w) (t 0) (t 7) w
theorem F37_5_step (Kr : Value → Value → World → Prop) (t : Tm) (w : World) : (F37_5 Kr (t 0) (t 7) w) = rsh [(0, (.one .ptr)), (7, (.one .slc))] t (fun t => vc Tryd.prog (orcOf [([0, 1, 0, 1, 1, 1, 1, 1, 1, 1, 1, 1, 1, 1, 1], F37_1O), ([0, 0, 1, 1, 1, 1, 1, 1, 1, 1, 1], F37_3O)]) [1, 1, 1, 1, 1, 1, 1, 1] (getAt F37_code [1, 1, 1, 1, 1, 1, 1, 1]) (F37_5C Kr) t w) := by kernel_rfl
theorem F37_5_ok : ∀ Q t w, F37_5O Q t w → W Tryd.prog Tryd.f37.ntmps (getAt F37_code [1, 1, 1, 1, 1, 1, 1, 1]) Q t w := by
  intro Q t w h
  unfold F37_5O at h
  rw [F37_5_step] at h
  refine (vc_sound mixed (orcCons (π := [0, 1, 0, 1, 1, 1, 1, 1, 1, 1, 1, 1, 1, 1, 1]) F37_1_ok (orcCons (π := [0, 0, 1, 1, 1, 1, 1, 1, 1, 1, 1]) F37_3_ok (orcNil F37_code))) _ _ rfl (okC_at F37_code_ok [1, 1, 1, 1, 1, 1, 1, 1]) _ _ _ (rsh_out h)).mono ?_
  intro o t w q
  cases o with
  | normal => exact q.elim
  | exit i => exact q.elim
  | ret => exact out_ok [4, 5] q
def F37 (x0 : Value) (x1 : Value) (w : World) (K : Value → World → Prop) : Prop :=
  rdP x0 fun p1 => rdI .u32 x1 fun n2 => nn p1 fun a3 => ldI .u32 (a3.add 0) w fun n4 => Calls Tryd.prog 18 #[(.int .u32 n4), (.int .u32 n2)] w fun e7 w6 => ∃ n5, e7 = .returned (.int .i64 n5) ∧ (Calls Tryd.prog 48 #[(.pointer p1), (.int .u32 n2)] w6 fun e10 w9 => ∃ b8, e10 = .returned (.bool b8) ∧ (br b8 (K (.tuple #[(.bool false), (.int .i64 0)]) w9) (br (decide ((n5 : Int) > 65535)) (K (.tuple #[(.bool false), (.int .i64 31)]) w9) (∃ k32 : Nat, F37_4 (fun y0_10 y6_10 y7_10 y8_10 w12 => ∀ _g13 : Tm, rdP y0_10 fun p14 => rdI .i64 y6_10 fun n15 => rdC y7_10 fun l16a l16n l16c => rdB y8_10 fun b17 => br (!b17) (alc (.cells #[(.int .i64 n15)] 3) w12 fun b18 w19 => ∃ l20a l20n l20c w21, Sem.run Tryd.prog (Builtin.append_ #[30, 30] 30 #[(.slice l16a l16n l16c), (.slice (some (Addr.mk b18 0 none)) 1 1)]) w19 = .ok (.slice l20a l20n l20c) w21 ∧ (F37_5 (fun y4_21 y5_21 w23 => ∀ _g24 : Tm, rdB y4_21 fun b25 => rdI .i64 y5_21 fun n26 => K (.tuple #[(.bool b25), (.int .i64 n26)]) w23) (.pointer p14) (.slice l20a l20n l20c) w21)) (F37_5 (fun y4_26 y5_26 w28 => ∀ _g29 : Tm, rdB y4_26 fun b30 => rdI .i64 y5_26 fun n31 => K (.tuple #[(.bool b30), (.int .i64 n31)]) w28) (.pointer p14) (.slice l16a l16n l16c) w12)) k32 (.pointer p1) (.int .i64 n5) (.slice none 0 0) (.bool false) (.int .i64 0) w9))))
theorem F37_step (x0 : Value) (x1 : Value) (w : World) (K : Value → World → Prop) : (F37 x0 x1 w K) = rsh [(0, (.one .ptr)), (1, (.one (.int .u32)))] (args0 #[x0, x1]) (fun t => vc Tryd.prog (orcOf [([0, 1, 0, 1, 1, 1, 1, 1, 1, 1, 1, 1, 1, 1, 1], F37_1O), ([1, 0, 0, 1, 0, 0, 1, 0, 1, 1, 1, 1, 1, 1], F37_2O), ([0, 0, 1, 1, 1, 1, 1, 1, 1, 1, 1], F37_3O), ([0, 1, 0, 1, 1, 1, 1, 1, 1], F37_4O), ([1, 1, 1, 1, 1, 1, 1, 1], F37_5O)]) [] F37_code (retQ Tryd.prog Tryd.f37 K) t w) := by kernel_rfl
theorem F37_ok {x0 x1 : Value} {w : World} {K : Value → World → Prop} (h : F37 x0 x1 w K) : Calls Tryd.prog 37 #[x0, x1] w fun e w' => ∃ v, e = .returned v ∧ K v w' := by
  rw [F37_step] at h
  exact calls_of (c := F37_code) mixed Tryd.func37 rfl (nlt rfl) (vc_sound mixed (orcCons (π := [0, 1, 0, 1, 1, 1, 1, 1, 1, 1, 1, 1, 1, 1, 1]) F37_1_ok (orcCons (π := [1, 0, 0, 1, 0, 0, 1, 0, 1, 1, 1, 1, 1, 1]) F37_2_ok (orcCons (π := [0, 0, 1, 1, 1, 1, 1, 1, 1, 1, 1]) F37_3_ok (orcCons (π := [0, 1, 0, 1, 1, 1, 1, 1, 1]) F37_4_ok (orcCons (π := [1, 1, 1, 1, 1, 1, 1, 1]) F37_5_ok (orcNil F37_code)))))) F37_code [] rfl F37_code_ok _ _ _ (rsh_out h))

/-! (*ropewalk/ropewalkref19.Box).tidy -/
noncomputable def F38_code : Code := Tryd.f38.body.getD .skip
theorem F38_code_ok : okC Tryd.prog Tryd.f38.ntmps F38_code = true := by kernel_rfl
def F38_1C (K0 : Value → Value → World → Prop) : Post := fun o t w => match o with | .normal => False | .exit i => (match Nat.beq i 0 with | true => K0 (t 0) (t 2) w | false => False) | .ret => False
def F38_1B (R : Value → Value → Value → World → Prop) (K0 : Value → Value → World → Prop) (x0 : Value) (x2 : Value) (x3 : Value) (w : World) : Prop :=
  rdP x0 fun p1 => rdC x2 fun l2a l2n l2c => rdI .i64 x3 fun n3 => nn p1 fun a4 => ldC (a4.add 3) w fun l5a l5n l5c => br (decide ((n3 : Int) < (l5n : Int))) (drw w fun w6 => nn p1 fun a7 => ldP (a7.add 0) w6 fun p8 => nn p8 fun a9 => ldI .u32 (a9.add 0) w6 fun n10 => nn p1 fun a11 => ldC (a11.add 3) w6 fun l12a l12n l12c => ixS 1 l12a l12n n3 fun a13 => ldI .u32 a13 w6 fun n14 => Calls Tryd.prog 15 #[(.int .u32 n10), (.int .u32 n14)] w6 fun e17 w16 => ∃ b15, e17 = .returned (.bool b15) ∧ (br b15 (nn p1 fun a18 => ldC (a18.add 3) w16 fun l19a l19n l19c => ixS 1 l19a l19n n3 fun a20 => ldI .u32 a20 w16 fun n21 => alc (.cells #[(.int .u32 n21)] 22) w16 fun b22 w23 => ∃ l24a l24n l24c w25, Sem.run Tryd.prog (Builtin.append_ #[34, 34] 34 #[(.slice l2a l2n l2c), (.slice (some (Addr.mk b22 0 none)) 1 1)]) w23 = .ok (.slice l24a l24n l24c) w25 ∧ (R (.pointer p1) (.slice l24a l24n l24c) (.int .i64 (IntKind.wrap .i64 (n3 + 1))) w25)) (R (.pointer p1) (.slice l2a l2n l2c) (.int .i64 (IntKind.wrap .i64 (n3 + 1))) w16))) (K0 (.pointer p1) (.slice l2a l2n l2c) w)
def F38_1 (K0 : Value → Value → World → Prop) : Nat → Value → Value → Value → World → Prop
  | 0 => fun _ _ _ _ => False
  | n + 1 => F38_1B (F38_1 K0 n) K0
def F38_1O (Q : Post) (t : Tm) (w : World) : Prop := ∃ n, F38_1 (fun y0 y2 w => ∀ g, rsh [(0, (.one .ptr)), (2, (.one .slc))] (upds g [(0, y0), (2, y2)]) fun t => Q (.exit 0) t w) n (t 0) (t 2) (t 3) w
theorem F38_1_step (K0 : Value → Value → World → Prop) (n : Nat) (t : Tm) (w : World) : (F38_1 K0 (n + 1) (t 0) (t 2) (t 3) w) = rsh [(0, (.one .ptr)), (2, (.one .slc)), (3, (.one (.int .i64)))] t (fun t => vc Tryd.prog (orcOf []) [0, 0, 1, 0, 1] (getAt F38_code [0, 0, 1, 0, 1]) (fun o t w => match o with | .normal => F38_1 K0 n (t 0) (t 2) (t 3) w | .exit i => F38_1C K0 (.exit i) t w | .ret => F38_1C K0 .ret t w) t w) := by kernel_rfl
theorem F38_1_ok : ∀ Q t w, F38_1O Q t w → W Tryd.prog Tryd.f38.ntmps (getAt F38_code [0, 1, 0, 1]) Q t w := by
  intro Q t w ⟨n, h⟩
  refine (W_loop (P := Tryd.prog) (b := getAt F38_code [0, 0, 1, 0, 1]) (Q := F38_1C (fun y0 y2 w => ∀ g, rsh [(0, (.one .ptr)), (2, (.one .slc))] (upds g [(0, y0), (2, y2)]) fun t => Q (.exit 0) t w)) (G := fun n t w => F38_1 (fun y0 y2 w => ∀ g, rsh [(0, (.one .ptr)), (2, (.one .slc))] (upds g [(0, y0), (2, y2)]) fun t => Q (.exit 0) t w) n (t 0) (t 2) (t 3) w) (fun _ _ h => h) (fun n t w h => ?_) n t w h).mono ?_
  · rw [F38_1_step] at h
    exact vc_sound mixed (orcNil F38_code) _ _ rfl (okC_at F38_code_ok [0, 0, 1, 0, 1]) _ _ _ (rsh_out h)
  · intro o t w q
    cases o with
    | normal => exact q.elim
    | exit i =>
      unfold F38_1C at q
      simp only at q
      split at q
      · rename_i hi
        rw [nbeq] at hi
        subst hi
        exact out_ok [0, 2] q
      · exact q.elim
    | ret => exact q.elim
def F38 (x0 : Value) (w : World) (K : Value → World → Prop) : Prop :=
  rdP x0 fun p1 => ∃ k9 : Nat, F38_1 (fun y0_1 y2_1 w3 => ∀ _g4 : Tm, rdP y0_1 fun p5 => rdC y2_1 fun l6a l6n l6c => nn p5 fun a7 => stc (a7.add 3) (.slice l6a l6n l6c) w3 fun w8 => K (.tuple #[]) w8) k9 (.pointer p1) (.slice none 0 0) (.int .i64 0) w
theorem F38_step (x0 : Value) (w : World) (K : Value → World → Prop) : (F38 x0 w K) = rsh [(0, (.one .ptr))] (args0 #[x0]) (fun t => vc Tryd.prog (orcOf [([0, 1, 0, 1], F38_1O)]) [] F38_code (retQ Tryd.prog Tryd.f38 K) t w) := by kernel_rfl
theorem F38_ok {x0 : Value} {w : World} {K : Value → World → Prop} (h : F38 x0 w K) : Calls Tryd.prog 38 #[x0] w fun e w' => ∃ v, e = .returned v ∧ K v w' := by
  rw [F38_step] at h
  exact calls_of (c := F38_code) mixed Tryd.func38 rfl (nlt rfl) (vc_sound mixed (orcCons (π := [0, 1, 0, 1]) F38_1_ok (orcNil F38_code)) F38_code [] rfl F38_code_ok _ _ _ (rsh_out h))

/-! (*ropewalk/inbox.Box).isFixed -/
noncomputable def F39_code : Code := Tryd.f39.body.getD .skip
theorem F39_code_ok : okC Tryd.prog Tryd.f39.ntmps F39_code = true := by kernel_rfl
def F39 (x0 : Value) (x1 : Value) (w : World) (K : Value → World → Prop) : Prop :=
  rdP x0 fun p1 => rdI .u32 x1 fun n2 => nn p1 fun a3 => ldM (a3.add 1) w fun m4 => ∃ n5, lookF Tryd.prog 22 3 (.map m4) (.int .u32 n2) false w = some (.int .i64 n5) ∧ (K (.bool (decide ((n5 : Int) > 0))) w)
theorem F39_step (x0 : Value) (x1 : Value) (w : World) (K : Value → World → Prop) : (F39 x0 x1 w K) = rsh [(0, (.one .ptr)), (1, (.one (.int .u32)))] (args0 #[x0, x1]) (fun t => vc Tryd.prog (orcOf []) [] F39_code (retQ Tryd.prog Tryd.f39 K) t w) := by kernel_rfl
theorem F39_ok {x0 x1 : Value} {w : World} {K : Value → World → Prop} (h : F39 x0 x1 w K) : Calls Tryd.prog 39 #[x0, x1] w fun e w' => ∃ v, e = .returned v ∧ K v w' := by
  rw [F39_step] at h
  exact calls_of (c := F39_code) mixed Tryd.func39 rfl (nlt rfl) (vc_sound mixed (orcNil F39_code) F39_code [] rfl F39_code_ok _ _ _ (rsh_out h))

/-! (*ropewalk/inbox.Box).above -/
noncomputable def F40_code : Code := Tryd.f40.body.getD .skip
theorem F40_code_ok : okC Tryd.prog Tryd.f40.ntmps F40_code = true := by kernel_rfl
def F40 (x0 : Value) (x1 : Value) (w : World) (K : Value → World → Prop) : Prop :=
  rdP x0 fun p1 => rdI .u32 x1 fun n2 => nn p1 fun a3 => ldP (a3.add 0) w fun p4 => Calls Tryd.prog 55 #[(.pointer p4)] w fun e7 w6 => ∃ l5a l5n l5c, e7 = .returned (.slice l5a l5n l5c) ∧ (Calls Tryd.prog 65 #[(.slice l5a l5n l5c), (.int .u32 n2)] w6 fun e10 w9 => ∃ b8, e10 = .returned (.bool b8) ∧ (K (.bool b8) w9))
theorem F40_step (x0 : Value) (x1 : Value) (w : World) (K : Value → World → Prop) : (F40 x0 x1 w K) = rsh [(0, (.one .ptr)), (1, (.one (.int .u32)))] (args0 #[x0, x1]) (fun t => vc Tryd.prog (orcOf []) [] F40_code (retQ Tryd.prog Tryd.f40 K) t w) := by kernel_rfl
theorem F40_ok {x0 x1 : Value} {w : World} {K : Value → World → Prop} (h : F40 x0 x1 w K) : Calls Tryd.prog 40 #[x0, x1] w fun e w' => ∃ v, e = .returned v ∧ K v w' := by
  rw [F40_step] at h
  exact calls_of (c := F40_code) mixed Tryd.func40 rfl (nlt rfl) (vc_sound mixed (orcNil F40_code) F40_code [] rfl F40_code_ok _ _ _ (rsh_out h))

/-! (*ropewalk/ropewalkref19.Box).above -/
noncomputable def F41_code : Code := Tryd.f41.body.getD .skip
theorem F41_code_ok : okC Tryd.prog Tryd.f41.ntmps F41_code = true := by kernel_rfl
def F41 (x0 : Value) (x1 : Value) (w : World) (K : Value → World → Prop) : Prop :=
  rdP x0 fun p1 => rdI .u32 x1 fun n2 => nn p1 fun a3 => ldP (a3.add 0) w fun p4 => nn p4 fun a5 => ldI .u32 (a5.add 0) w fun n6 => Calls Tryd.prog 15 #[(.int .u32 n6), (.int .u32 n2)] w fun e9 w8 => ∃ b7, e9 = .returned (.bool b7) ∧ (br b7 (nn p1 fun a10 => ldP (a10.add 0) w8 fun p11 => Calls Tryd.prog 48 #[(.pointer p11), (.int .u32 n2)] w8 fun e14 w13 => ∃ b12, e14 = .returned (.bool b12) ∧ (K (.bool b12) w13)) (K (.bool false) w8))
theorem F41_step (x0 : Value) (x1 : Value) (w : World) (K : Value → World → Prop) : (F41 x0 x1 w K) = rsh [(0, (.one .ptr)), (1, (.one (.int .u32)))] (args0 #[x0, x1]) (fun t => vc Tryd.prog (orcOf []) [] F41_code (retQ Tryd.prog Tryd.f41 K) t w) := by kernel_rfl
theorem F41_ok {x0 x1 : Value} {w : World} {K : Value → World → Prop} (h : F41 x0 x1 w K) : Calls Tryd.prog 41 #[x0, x1] w fun e w' => ∃ v, e = .returned v ∧ K v w' := by
  rw [F41_step] at h
  exact calls_of (c := F41_code) mixed Tryd.func41 rfl (nlt rfl) (vc_sound mixed (orcNil F41_code) F41_code [] rfl F41_code_ok _ _ _ (rsh_out h))

/-! (*ropewalk/ropewalkref19.Box).fixed -/
noncomputable def F42_code : Code := Tryd.f42.body.getD .skip
theorem F42_code_ok : okC Tryd.prog Tryd.f42.ntmps F42_code = true := by kernel_rfl
def F42_1C (K0 : World → Prop) (Kr : Value → World → Prop) : Post := fun o t w => match o with | .normal => False | .exit i => (match Nat.beq i 0 with | true => K0  w | false => False) | .ret => Kr (t 4) w
def F42_1B (R : Value → Value → Value → World → Prop) (K0 : World → Prop) (Kr : Value → World → Prop) (x0 : Value) (x1 : Value) (x5 : Value) (w : World) : Prop :=
  rdP x0 fun p1 => rdI .u32 x1 fun n2 => rdI .i64 x5 fun n3 => nn p1 fun a4 => ldC (a4.add 3) w fun l5a l5n l5c => br (decide ((n3 : Int) < (l5n : Int))) (nn p1 fun a6 => ldC (a6.add 3) w fun l7a l7n l7c => ixS 1 l7a l7n n3 fun a8 => ldI .u32 a8 w fun n9 => br (n9 == n2) (Kr (.bool true) w) (R (.pointer p1) (.int .u32 n2) (.int .i64 (IntKind.wrap .i64 (n3 + 1))) w)) (K0 w)
def F42_1 (K0 : World → Prop) (Kr : Value → World → Prop) : Nat → Value → Value → Value → World → Prop
  | 0 => fun _ _ _ _ => False
  | n + 1 => F42_1B (F42_1 K0 Kr n) K0 Kr
def F42_1O (Q : Post) (t : Tm) (w : World) : Prop := ∃ n, F42_1 (fun w => ∀ g, rsh [] (upds g []) fun t => Q (.exit 0) t w) (fun y4 w => ∀ g, rsh [(4, (.one .bool))] (upds g [(4, y4)]) fun t => Q .ret t w) n (t 0) (t 1) (t 5) w
theorem F42_1_step (K0 : World → Prop) (Kr : Value → World → Prop) (n : Nat) (t : Tm) (w : World) : (F42_1 K0 Kr (n + 1) (t 0) (t 1) (t 5) w) = rsh [(0, (.one .ptr)), (1, (.one (.int .u32))), (5, (.one (.int .i64)))] t (fun t => vc Tryd.prog (orcOf []) [0, 0, 1, 0, 1] (getAt F42_code [0, 0, 1, 0, 1]) (fun o t w => match o with | .normal => F42_1 K0 Kr n (t 0) (t 1) (t 5) w | .exit i => F42_1C K0 Kr (.exit i) t w | .ret => F42_1C K0 Kr .ret t w) t w) := by kernel_rfl
theorem F42_1_ok : ∀ Q t w, F42_1O Q t w → W Tryd.prog Tryd.f42.ntmps (getAt F42_code [0, 1, 0, 1]) Q t w := by
  intro Q t w ⟨n, h⟩
  refine (W_loop (P := Tryd.prog) (b := getAt F42_code [0, 0, 1, 0, 1]) (Q := F42_1C (fun w => ∀ g, rsh [] (upds g []) fun t => Q (.exit 0) t w) (fun y4 w => ∀ g, rsh [(4, (.one .bool))] (upds g [(4, y4)]) fun t => Q .ret t w)) (G := fun n t w => F42_1 (fun w => ∀ g, rsh [] (upds g []) fun t => Q (.exit 0) t w) (fun y4 w => ∀ g, rsh [(4, (.one .bool))] (upds g [(4, y4)]) fun t => Q .ret t w) n (t 0) (t 1) (t 5) w) (fun _ _ h => h) (fun n t w h => ?_) n t w h).mono ?_
  · rw [F42_1_step] at h
    exact vc_sound mixed (orcNil F42_code) _ _ rfl (okC_at F42_code_ok [0, 0, 1, 0, 1]) _ _ _ (rsh_out h)
  · intro o t w q
    cases o with
    | normal => exact q.elim
    | exit i =>
      unfold F42_1C at q
      simp only at q
      split at q
      · rename_i hi
        rw [nbeq] at hi
        subst hi
        exact out_ok [] q
      · exact q.elim
    | ret => exact out_ok [4] q
def F42 (x0 : Value) (x1 : Value) (w : World) (K : Value → World → Prop) : Prop :=
  rdP x0 fun p1 => rdI .u32 x1 fun n2 => ∃ k10 : Nat, F42_1 (fun w4 => ∀ _g5 : Tm, K (.bool false) w4) (fun y4_5 w7 => ∀ _g8 : Tm, rdB y4_5 fun b9 => K (.bool b9) w7) k10 (.pointer p1) (.int .u32 n2) (.int .i64 0) w
theorem F42_step (x0 : Value) (x1 : Value) (w : World) (K : Value → World → Prop) : (F42 x0 x1 w K) = rsh [(0, (.one .ptr)), (1, (.one (.int .u32)))] (args0 #[x0, x1]) (fun t => vc Tryd.prog (orcOf [([0, 1, 0, 1], F42_1O)]) [] F42_code (retQ Tryd.prog Tryd.f42 K) t w) := by kernel_rfl
theorem F42_ok {x0 x1 : Value} {w : World} {K : Value → World → Prop} (h : F42 x0 x1 w K) : Calls Tryd.prog 42 #[x0, x1] w fun e w' => ∃ v, e = .returned v ∧ K v w' := by
  rw [F42_step] at h
  exact calls_of (c := F42_code) mixed Tryd.func42 rfl (nlt rfl) (vc_sound mixed (orcCons (π := [0, 1, 0, 1]) F42_1_ok (orcNil F42_code)) F42_code [] rfl F42_code_ok _ _ _ (rsh_out h))

/-! ropewalk/ropewalklaw19.moved -/
noncomputable def F43_code : Code := Tryd.f43.body.getD .skip
theorem F43_code_ok : okC Tryd.prog Tryd.f43.ntmps F43_code = true := by kernel_rfl
def F43_1C (K0 : Value → World → Prop) : Post := fun o t w => match o with | .normal => False | .exit i => (match Nat.beq i 0 with | true => K0 (t 5) w | false => False) | .ret => False
def F43_1B (R : Value → Value → Value → Value → World → Prop) (K0 : Value → World → Prop) (x0 : Value) (x1 : Value) (x5 : Value) (x6 : Value) (w : World) : Prop :=
  rdI .u32 x0 fun n1 => rdC x1 fun l2a l2n l2c => rdC x5 fun l3a l3n l3c => rdI .i64 x6 fun n4 => br (decide ((n4 : Int) < (l2n : Int))) (ixS 1 l2a l2n n4 fun a5 => ldI .u32 a5 w fun n6 => Calls Tryd.prog 9 #[(.int .u32 n1), (.int .u32 n6)] w fun e9 w8 => ∃ n7, e9 = .returned (.int .u32 n7) ∧ (alc (.cells #[(.int .u32 n7)] 22) w8 fun b10 w11 => ∃ l12a l12n l12c w13, Sem.run Tryd.prog (Builtin.append_ #[34, 34] 34 #[(.slice l3a l3n l3c), (.slice (some (Addr.mk b10 0 none)) 1 1)]) w11 = .ok (.slice l12a l12n l12c) w13 ∧ (R (.int .u32 n1) (.slice l2a l2n l2c) (.slice l12a l12n l12c) (.int .i64 (IntKind.wrap .i64 (n4 + 1))) w13))) (K0 (.slice l3a l3n l3c) w)
def F43_1 (K0 : Value → World → Prop) : Nat → Value → Value → Value → Value → World → Prop
  | 0 => fun _ _ _ _ _ => False
  | n + 1 => F43_1B (F43_1 K0 n) K0
def F43_1O (Q : Post) (t : Tm) (w : World) : Prop := ∃ n, F43_1 (fun y5 w => ∀ g, rsh [(5, (.one .slc))] (upds g [(5, y5)]) fun t => Q (.exit 0) t w) n (t 0) (t 1) (t 5) (t 6) w
theorem F43_1_step (K0 : Value → World → Prop) (n : Nat) (t : Tm) (w : World) : (F43_1 K0 (n + 1) (t 0) (t 1) (t 5) (t 6) w) = rsh [(0, (.one (.int .u32))), (1, (.one .slc)), (5, (.one .slc)), (6, (.one (.int .i64)))] t (fun t => vc Tryd.prog (orcOf []) [0, 0, 1, 0, 1, 1] (getAt F43_code [0, 0, 1, 0, 1, 1]) (fun o t w => match o with | .normal => F43_1 K0 n (t 0) (t 1) (t 5) (t 6) w | .exit i => F43_1C K0 (.exit i) t w | .ret => F43_1C K0 .ret t w) t w) := by kernel_rfl
theorem F43_1_ok : ∀ Q t w, F43_1O Q t w → W Tryd.prog Tryd.f43.ntmps (getAt F43_code [0, 1, 0, 1, 1]) Q t w := by
  intro Q t w ⟨n, h⟩
  refine (W_loop (P := Tryd.prog) (b := getAt F43_code [0, 0, 1, 0, 1, 1]) (Q := F43_1C (fun y5 w => ∀ g, rsh [(5, (.one .slc))] (upds g [(5, y5)]) fun t => Q (.exit 0) t w)) (G := fun n t w => F43_1 (fun y5 w => ∀ g, rsh [(5, (.one .slc))] (upds g [(5, y5)]) fun t => Q (.exit 0) t w) n (t 0) (t 1) (t 5) (t 6) w) (fun _ _ h => h) (fun n t w h => ?_) n t w h).mono ?_
  · rw [F43_1_step] at h
    exact vc_sound mixed (orcNil F43_code) _ _ rfl (okC_at F43_code_ok [0, 0, 1, 0, 1, 1]) _ _ _ (rsh_out h)
  · intro o t w q
    cases o with
    | normal => exact q.elim
    | exit i =>
      unfold F43_1C at q
      simp only at q
      split at q
      · rename_i hi
        rw [nbeq] at hi
        subst hi
        exact out_ok [5] q
      · exact q.elim
    | ret => exact q.elim
def F43 (x0 : Value) (x1 : Value) (w : World) (K : Value → World → Prop) : Prop :=
  rdI .u32 x0 fun n1 => rdC x1 fun l2a l2n l2c => ∃ k7 : Nat, F43_1 (fun y5_2 w4 => ∀ _g5 : Tm, rdC y5_2 fun l6a l6n l6c => K (.slice l6a l6n l6c) w4) k7 (.int .u32 n1) (.slice l2a l2n l2c) (.slice none 0 0) (.int .i64 0) w
theorem F43_step (x0 : Value) (x1 : Value) (w : World) (K : Value → World → Prop) : (F43 x0 x1 w K) = rsh [(0, (.one (.int .u32))), (1, (.one .slc))] (args0 #[x0, x1]) (fun t => vc Tryd.prog (orcOf [([0, 1, 0, 1, 1], F43_1O)]) [] F43_code (retQ Tryd.prog Tryd.f43 K) t w) := by kernel_rfl
theorem F43_ok {x0 x1 : Value} {w : World} {K : Value → World → Prop} (h : F43 x0 x1 w K) : Calls Tryd.prog 43 #[x0, x1] w fun e w' => ∃ v, e = .returned v ∧ K v w' := by
  rw [F43_step] at h
  exact calls_of (c := F43_code) mixed Tryd.func43 rfl (nlt rfl) (vc_sound mixed (orcCons (π := [0, 1, 0, 1, 1]) F43_1_ok (orcNil F43_code)) F43_code [] rfl F43_code_ok _ _ _ (rsh_out h))

/-! (*ropewalk/ropewalkref19.Box).Drop -/
noncomputable def F44_code : Code := Tryd.f44.body.getD .skip
theorem F44_code_ok : okC Tryd.prog Tryd.f44.ntmps F44_code = true := by kernel_rfl
def F44_1C (Kr : Value → World → Prop) : Post := fun o t w => match o with | .normal => False | .exit i => (False) | .ret => Kr (t 4) w
def F44_1 (Kr : Value → World → Prop) (x0 : Value) (x1 : Value) (w : World) : Prop :=
  rdP x0 fun p1 => rdI .u32 x1 fun n2 => nn p1 fun a3 => ldP (a3.add 0) w fun p4 => Calls Tryd.prog 66 #[(.pointer p4), (.int .u32 n2)] w fun e7 w6 => ∃ b5, e7 = .returned (.bool b5) ∧ (Kr (.bool b5) w6)
def F44_1O (Q : Post) (t : Tm) (w : World) : Prop := F44_1 (fun y4 w => ∀ g, rsh [(4, (.one .bool))] (upds g [(4, y4)]) fun t => Q .ret t w) (t 0) (t 1) w
theorem F44_1_step (Kr : Value → World → Prop) (t : Tm) (w : World) : (F44_1 Kr (t 0) (t 1) w) = rsh [(0, (.one .ptr)), (1, (.one (.int .u32)))] t (fun t => vc Tryd.prog (orcOf []) [1, 1] (getAt F44_code [1, 1]) (F44_1C Kr) t w) := by kernel_rfl
theorem F44_1_ok : ∀ Q t w, F44_1O Q t w → W Tryd.prog Tryd.f44.ntmps (getAt F44_code [1, 1]) Q t w := by
  intro Q t w h
  unfold F44_1O at h
  rw [F44_1_step] at h
  refine (vc_sound mixed (orcNil F44_code) _ _ rfl (okC_at F44_code_ok [1, 1]) _ _ _ (rsh_out h)).mono ?_
  intro o t w q
  cases o with
  | normal => exact q.elim
  | exit i => exact q.elim
  | ret => exact out_ok [4] q
def F44 (x0 : Value) (x1 : Value) (w : World) (K : Value → World → Prop) : Prop :=
  rdP x0 fun p1 => rdI .u32 x1 fun n2 => Calls Tryd.prog 41 #[(.pointer p1), (.int .u32 n2)] w fun e5 w4 => ∃ b3, e5 = .returned (.bool b3) ∧ (br (!b3) (K (.bool false) w4) (Calls Tryd.prog 42 #[(.pointer p1), (.int .u32 n2)] w4 fun e8 w7 => ∃ b6, e8 = .returned (.bool b6) ∧ (br b6 (K (.bool false) w7) (F44_1 (fun y4_8 w10 => ∀ _g11 : Tm, rdB y4_8 fun b12 => K (.bool b12) w10) (.pointer p1) (.int .u32 n2) w7))))
theorem F44_step (x0 : Value) (x1 : Value) (w : World) (K : Value → World → Prop) : (F44 x0 x1 w K) = rsh [(0, (.one .ptr)), (1, (.one (.int .u32)))] (args0 #[x0, x1]) (fun t => vc Tryd.prog (orcOf [([1, 1], F44_1O)]) [] F44_code (retQ Tryd.prog Tryd.f44 K) t w) := by kernel_rfl
theorem F44_ok {x0 x1 : Value} {w : World} {K : Value → World → Prop} (h : F44 x0 x1 w K) : Calls Tryd.prog 44 #[x0, x1] w fun e w' => ∃ v, e = .returned v ∧ K v w' := by
  rw [F44_step] at h
  exact calls_of (c := F44_code) mixed Tryd.func44 rfl (nlt rfl) (vc_sound mixed (orcCons (π := [1, 1]) F44_1_ok (orcNil F44_code)) F44_code [] rfl F44_code_ok _ _ _ (rsh_out h))

/-! (*ropewalk/ropewalkref19.Box).Heard -/
noncomputable def F45_code : Code := Tryd.f45.body.getD .skip
theorem F45_code_ok : okC Tryd.prog Tryd.f45.ntmps F45_code = true := by kernel_rfl
def F45_1C (Kr : Value → World → Prop) : Post := fun o t w => match o with | .normal => False | .exit i => (False) | .ret => Kr (t 4) w
def F45_1 (Kr : Value → World → Prop) (x0 : Value) (x5 : Value) (w : World) : Prop :=
  rdP x0 fun p1 => rdI .i64 x5 fun n2 => nn p1 fun a3 => stc (a3.add 7) (.bool true) w fun w4 => nn p1 fun a5 => stc (a5.add 8) (.int .i64 n2) w4 fun w6 => Kr (.int .i64 0) w6
def F45_1O (Q : Post) (t : Tm) (w : World) : Prop := F45_1 (fun y4 w => ∀ g, rsh [(4, (.one (.int .i64)))] (upds g [(4, y4)]) fun t => Q .ret t w) (t 0) (t 5) w
theorem F45_1_step (Kr : Value → World → Prop) (t : Tm) (w : World) : (F45_1 Kr (t 0) (t 5) w) = rsh [(0, (.one .ptr)), (5, (.one (.int .i64)))] t (fun t => vc Tryd.prog (orcOf []) [1, 1, 1, 1, 1] (getAt F45_code [1, 1, 1, 1, 1]) (F45_1C Kr) t w) := by kernel_rfl
theorem F45_1_ok : ∀ Q t w, F45_1O Q t w → W Tryd.prog Tryd.f45.ntmps (getAt F45_code [1, 1, 1, 1, 1]) Q t w := by
  intro Q t w h
  unfold F45_1O at h
  rw [F45_1_step] at h
  refine (vc_sound mixed (orcNil F45_code) _ _ rfl (okC_at F45_code_ok [1, 1, 1, 1, 1]) _ _ _ (rsh_out h)).mono ?_
  intro o t w q
  cases o with
  | normal => exact q.elim
  | exit i => exact q.elim
  | ret => exact out_ok [4] q
def F45_2C (Kr : Value → World → Prop) : Post := fun o t w => match o with | .normal => False | .exit i => (False) | .ret => Kr (t 4) w
def F45_2 (Kr : Value → World → Prop) (x0 : Value) (x1 : Value) (w : World) : Prop :=
  rdP x0 fun p1 => rdI .i64 x1 fun n2 => nn p1 fun a3 => ldI .i64 (a3.add 5) w fun n4 => nn p1 fun a5 => stc (a5.add 5) (.int .i64 (IntKind.wrap .i64 (n4 + 1))) w fun w6 => nn p1 fun a7 => ldI .i64 (a7.add 2) w6 fun n8 => nn p1 fun a9 => ldC (a9.add 4) w6 fun l10a l10n l10c => br (decide (((l10n : Int) : Int) > 0)) (F45_1 (fun y4_10 w12 => ∀ _g13 : Tm, rdI .i64 y4_10 fun n14 => Kr (.int .i64 n14) w12) (.pointer p1) (.int .i64 n2) w6) (nn p1 fun a15 => ldI .i64 (a15.add 5) w6 fun n16 => br (decide ((n16 : Int) ≥ 2)) (F45_1 (fun y4_16 w18 => ∀ _g19 : Tm, rdI .i64 y4_16 fun n20 => Kr (.int .i64 n20) w18) (.pointer p1) (.int .i64 n2) w6) (nn p1 fun a21 => ldB (a21.add 6) w6 fun b22 => br (!b22) (F45_1 (fun y4_22 w24 => ∀ _g25 : Tm, rdI .i64 y4_22 fun n26 => Kr (.int .i64 n26) w24) (.pointer p1) (.int .i64 n2) w6) (F45_1 (fun y4_26 w28 => ∀ _g29 : Tm, rdI .i64 y4_26 fun n30 => Kr (.int .i64 n30) w28) (.pointer p1) (.int .i64 (IntKind.wrap .i64 (n2 + n8))) w6)))
def F45_2O (Q : Post) (t : Tm) (w : World) : Prop := F45_2 (fun y4 w => ∀ g, rsh [(4, (.one (.int .i64)))] (upds g [(4, y4)]) fun t => Q .ret t w) (t 0) (t 1) w
theorem F45_2_step (Kr : Value → World → Prop) (t : Tm) (w : World) : (F45_2 Kr (t 0) (t 1) w) = rsh [(0, (.one .ptr)), (1, (.one (.int .i64)))] t (fun t => vc Tryd.prog (orcOf [([1, 1, 1, 1, 1], F45_1O)]) [1, 1] (getAt F45_code [1, 1]) (F45_2C Kr) t w) := by kernel_rfl
theorem F45_2_ok : ∀ Q t w, F45_2O Q t w → W Tryd.prog Tryd.f45.ntmps (getAt F45_code [1, 1]) Q t w := by
  intro Q t w h
  unfold F45_2O at h
  rw [F45_2_step] at h
  refine (vc_sound mixed (orcCons (π := [1, 1, 1, 1, 1]) F45_1_ok (orcNil F45_code)) _ _ rfl (okC_at F45_code_ok [1, 1]) _ _ _ (rsh_out h)).mono ?_
  intro o t w q
  cases o with
  | normal => exact q.elim
  | exit i => exact q.elim
  | ret => exact out_ok [4] q
def F45 (x0 : Value) (x1 : Value) (w : World) (K : Value → World → Prop) : Prop :=
  rdP x0 fun p1 => rdI .i64 x1 fun n2 => br (decide ((n2 : Int) < 0)) (K (.int .i64 1) w) (br (decide ((n2 : Int) > 1099511627776)) (K (.int .i64 1) w) (F45_2 (fun y4_2 w4 => ∀ _g5 : Tm, rdI .i64 y4_2 fun n6 => K (.int .i64 n6) w4) (.pointer p1) (.int .i64 n2) w))
theorem F45_step (x0 : Value) (x1 : Value) (w : World) (K : Value → World → Prop) : (F45 x0 x1 w K) = rsh [(0, (.one .ptr)), (1, (.one (.int .i64)))] (args0 #[x0, x1]) (fun t => vc Tryd.prog (orcOf [([1, 1, 1, 1, 1], F45_1O), ([1, 1], F45_2O)]) [] F45_code (retQ Tryd.prog Tryd.f45 K) t w) := by kernel_rfl
theorem F45_ok {x0 x1 : Value} {w : World} {K : Value → World → Prop} (h : F45 x0 x1 w K) : Calls Tryd.prog 45 #[x0, x1] w fun e w' => ∃ v, e = .returned v ∧ K v w' := by
  rw [F45_step] at h
  exact calls_of (c := F45_code) mixed Tryd.func45 rfl (nlt rfl) (vc_sound mixed (orcCons (π := [1, 1, 1, 1, 1]) F45_1_ok (orcCons (π := [1, 1]) F45_2_ok (orcNil F45_code))) F45_code [] rfl F45_code_ok _ _ _ (rsh_out h))

/-! (*ropewalk/ropewalkref19.Box).Report -/
noncomputable def F46_code : Code := Tryd.f46.body.getD .skip
theorem F46_code_ok : okC Tryd.prog Tryd.f46.ntmps F46_code = true := by kernel_rfl
def F46_1C (Kn : Value → Value → Value → Value → Value → World → Prop) : Post := fun o t w => match o with | .normal => Kn (t 0) (t 2) (t 6) (t 8) (t 9) w | .exit i => (False) | .ret => False
def F46_1 (Kn : Value → Value → Value → Value → Value → World → Prop) (x0 : Value) (x2 : Value) (x6 : Value) (x8 : Value) (x9 : Value) (w : World) : Prop :=
  rdP x0 fun p1 => rdI .i64 x2 fun n2 => rdA x6 fun a3 => rdA x8 fun a4 => rdI .i64 x9 fun n5 => drw w fun w6 => ldC (a4.add 12) w6 fun l7a l7n l7c => nn p1 fun a8 => ldC (a8.add 4) w6 fun l9a l9n l9c => ixS 1 l9a l9n n5 fun a10 => ldI .u32 a10 w6 fun n11 => alc (.cells #[(.int .u32 n11)] 22) w6 fun b12 w13 => Pres w6 w13 ∧ (∃ l14a l14n l14c w15, Sem.run Tryd.prog (Builtin.append_ #[34, 34] 34 #[(.slice l7a l7n l7c), (.slice (some (Addr.mk b12 0 none)) 1 1)]) w13 = .ok (.slice l14a l14n l14c) w15 ∧ (stc (a4.add 12) (.slice l14a l14n l14c) w15 fun w16 => Kn (.pointer p1) (.int .i64 n2) (.pointer (some a3)) (.pointer (some a4)) (.int .i64 (IntKind.wrap .i64 (n5 + 1))) w16))
def F46_1O (Q : Post) (t : Tm) (w : World) : Prop := F46_1 (fun y0 y2 y6 y8 y9 w => ∀ g, rsh [(0, (.one .ptr)), (2, (.one (.int .i64))), (6, (.one .adr)), (8, (.one .adr)), (9, (.one (.int .i64)))] (upds g [(0, y0), (2, y2), (6, y6), (8, y8), (9, y9)]) fun t => Q .normal t w) (t 0) (t 2) (t 6) (t 8) (t 9) w
theorem F46_1_step (Kn : Value → Value → Value → Value → Value → World → Prop) (t : Tm) (w : World) : (F46_1 Kn (t 0) (t 2) (t 6) (t 8) (t 9) w) = rsh [(0, (.one .ptr)), (2, (.one (.int .i64))), (6, (.one .adr)), (8, (.one .adr)), (9, (.one (.int .i64)))] t (fun t => vc Tryd.prog (orcOf []) [1, 0, 0, 1, 0, 1, 1, 1, 1, 1] (getAt F46_code [1, 0, 0, 1, 0, 1, 1, 1, 1, 1]) (F46_1C Kn) t w) := by kernel_rfl
theorem F46_1_ok : ∀ Q t w, F46_1O Q t w → W Tryd.prog Tryd.f46.ntmps (getAt F46_code [1, 0, 0, 1, 0, 1, 1, 1, 1, 1]) Q t w := by
  intro Q t w h
  unfold F46_1O at h
  rw [F46_1_step] at h
  refine (vc_sound mixed (orcNil F46_code) _ _ rfl (okC_at F46_code_ok [1, 0, 0, 1, 0, 1, 1, 1, 1, 1]) _ _ _ (rsh_out h)).mono ?_
  intro o t w q
  cases o with
  | normal => exact out_ok [0, 2, 6, 8, 9] q
  | exit i => exact q.elim
  | ret => exact q.elim
def F46_2C (K0 : Value → Value → Value → World → Prop) : Post := fun o t w => match o with | .normal => False | .exit i => (match Nat.beq i 0 with | true => K0 (t 0) (t 6) (t 8) w | false => False) | .ret => False
def F46_2B (R : Value → Value → Value → Value → Value → World → Prop) (K0 : Value → Value → Value → World → Prop) (x0 : Value) (x2 : Value) (x6 : Value) (x8 : Value) (x9 : Value) (w : World) : Prop :=
  rdP x0 fun p1 => rdI .i64 x2 fun n2 => rdA x6 fun a3 => rdA x8 fun a4 => rdI .i64 x9 fun n5 => nn p1 fun a6 => ldC (a6.add 4) w fun l7a l7n l7c => br (decide ((n5 : Int) < (l7n : Int))) (br (decide ((n5 : Int) < n2)) (F46_1 (fun y0_7 y2_7 y6_7 y8_7 y9_7 w9 => ∀ _g10 : Tm, rdP y0_7 fun p11 => rdI .i64 y2_7 fun n12 => rdA y6_7 fun a13 => rdA y8_7 fun a14 => rdI .i64 y9_7 fun n15 => R (.pointer p11) (.int .i64 n12) (.pointer (some a13)) (.pointer (some a14)) (.int .i64 n15) w9) (.pointer p1) (.int .i64 n2) (.pointer (some a3)) (.pointer (some a4)) (.int .i64 n5) w) (K0 (.pointer p1) (.pointer (some a3)) (.pointer (some a4)) w)) (K0 (.pointer p1) (.pointer (some a3)) (.pointer (some a4)) w)
def F46_2 (K0 : Value → Value → Value → World → Prop) : Nat → Value → Value → Value → Value → Value → World → Prop
  | 0 => fun _ _ _ _ _ _ => False
  | n + 1 => F46_2B (F46_2 K0 n) K0
def F46_2O (Q : Post) (t : Tm) (w : World) : Prop := ∃ n, F46_2 (fun y0 y6 y8 w => ∀ g, rsh [(0, (.one .ptr)), (6, (.one .adr)), (8, (.one .adr))] (upds g [(0, y0), (6, y6), (8, y8)]) fun t => Q (.exit 0) t w) n (t 0) (t 2) (t 6) (t 8) (t 9) w
theorem F46_2_step (K0 : Value → Value → Value → World → Prop) (n : Nat) (t : Tm) (w : World) : (F46_2 K0 (n + 1) (t 0) (t 2) (t 6) (t 8) (t 9) w) = rsh [(0, (.one .ptr)), (2, (.one (.int .i64))), (6, (.one .adr)), (8, (.one .adr)), (9, (.one (.int .i64)))] t (fun t => vc Tryd.prog (orcOf [([1, 0, 0, 1, 0, 1, 1, 1, 1, 1], F46_1O)]) [0, 0, 1, 0, 1, 1, 1, 1, 1] (getAt F46_code [0, 0, 1, 0, 1, 1, 1, 1, 1]) (fun o t w => match o with | .normal => F46_2 K0 n (t 0) (t 2) (t 6) (t 8) (t 9) w | .exit i => F46_2C K0 (.exit i) t w | .ret => F46_2C K0 .ret t w) t w) := by kernel_rfl
theorem F46_2_ok : ∀ Q t w, F46_2O Q t w → W Tryd.prog Tryd.f46.ntmps (getAt F46_code [0, 1, 0, 1, 1, 1, 1, 1]) Q t w := by
  intro Q t w ⟨n, h⟩
  refine (W_loop (P := Tryd.prog) (b := getAt F46_code [0, 0, 1, 0, 1, 1, 1, 1, 1]) (Q := F46_2C (fun y0 y6 y8 w => ∀ g, rsh [(0, (.one .ptr)), (6, (.one .adr)), (8, (.one .adr))] (upds g [(0, y0), (6, y6), (8, y8)]) fun t => Q (.exit 0) t w)) (G := fun n t w => F46_2 (fun y0 y6 y8 w => ∀ g, rsh [(0, (.one .ptr)), (6, (.one .adr)), (8, (.one .adr))] (upds g [(0, y0), (6, y6), (8, y8)]) fun t => Q (.exit 0) t w) n (t 0) (t 2) (t 6) (t 8) (t 9) w) (fun _ _ h => h) (fun n t w h => ?_) n t w h).mono ?_
  · rw [F46_2_step] at h
    exact vc_sound mixed (orcCons (π := [1, 0, 0, 1, 0, 1, 1, 1, 1, 1]) F46_1_ok (orcNil F46_code)) _ _ rfl (okC_at F46_code_ok [0, 0, 1, 0, 1, 1, 1, 1, 1]) _ _ _ (rsh_out h)
  · intro o t w q
    cases o with
    | normal => exact q.elim
    | exit i =>
      unfold F46_2C at q
      simp only at q
      split at q
      · rename_i hi
        rw [nbeq] at hi
        subst hi
        exact out_ok [0, 6, 8] q
      · exact q.elim
    | ret => exact q.elim
def F46_3C (Kr : Value → Value → World → Prop) : Post := fun o t w => match o with | .normal => False | .exit i => (False) | .ret => Kr (t 6) (t 7) w
def F46_3 (Kr : Value → Value → World → Prop) (x0 : Value) (x2 : Value) (x6 : Value) (x8 : Value) (w : World) : Prop :=
  rdP x0 fun p1 => rdI .i64 x2 fun n2 => rdA x6 fun a3 => rdA x8 fun a4 => ∃ k51 : Nat, F46_2 (fun y0_4 y6_4 y8_4 w6 => ∀ _g7 : Tm, rdP y0_4 fun p8 => rdA y6_4 fun a9 => rdA y8_4 fun a10 => nn p8 fun a11 => stc (a11.add 4) (.slice none 0 0) w6 fun w12 => nn p8 fun a13 => stc (a13.add 5) (.int .i64 0) w12 fun w14 => nn p8 fun a15 => stc (a15.add 7) (.bool false) w14 fun w16 => nn p8 fun a17 => stc (a17.add 8) (.int .i64 0) w16 fun w18 => nn p8 fun a19 => stc (a19.add 6) (.bool true) w18 fun w20 => ldI .u8 (a10.add 0) w20 fun n21 => ldI .u8 (a10.add 1) w20 fun n22 => ldI .u32 (a10.add 2) w20 fun n23 => ldI .u16 (a10.add 3) w20 fun n24 => ldI .u16 (a10.add 4) w20 fun n25 => ldI .u32 (a10.add 5) w20 fun n26 => ldI .u32 (a10.add 6) w20 fun n27 => ldI .u32 (a10.add 7) w20 fun n28 => ldI .u16 (a10.add 8) w20 fun n29 => ldI .u16 (a10.add 9) w20 fun n30 => ldC (a10.add 10) w20 fun l31a l31n l31c => ldC (a10.add 11) w20 fun l32a l32n l32c => ldC (a10.add 12) w20 fun l33a l33n l33c => ldC (a10.add 13) w20 fun l34a l34n l34c => ldC (a10.add 14) w20 fun l35a l35n l35c => stc (a9.add 0) (.int .u8 n21) w20 fun w36 => stc (a9.add 1) (.int .u8 n22) w36 fun w37 => stc (a9.add 2) (.int .u32 n23) w37 fun w38 => stc (a9.add 3) (.int .u16 n24) w38 fun w39 => stc (a9.add 4) (.int .u16 n25) w39 fun w40 => stc (a9.add 5) (.int .u32 n26) w40 fun w41 => stc (a9.add 6) (.int .u32 n27) w41 fun w42 => stc (a9.add 7) (.int .u32 n28) w42 fun w43 => stc (a9.add 8) (.int .u16 n29) w43 fun w44 => stc (a9.add 9) (.int .u16 n30) w44 fun w45 => stc (a9.add 10) (.slice l31a l31n l31c) w45 fun w46 => stc (a9.add 11) (.slice l32a l32n l32c) w46 fun w47 => stc (a9.add 12) (.slice l33a l33n l33c) w47 fun w48 => stc (a9.add 13) (.slice l34a l34n l34c) w48 fun w49 => stc (a9.add 14) (.slice l35a l35n l35c) w49 fun w50 => Kr (.pointer (some a9)) (.int .i64 0) w50) k51 (.pointer p1) (.int .i64 n2) (.pointer (some a3)) (.pointer (some a4)) (.int .i64 0) w
def F46_3O (Q : Post) (t : Tm) (w : World) : Prop := F46_3 (fun y6 y7 w => ∀ g, rsh [(6, (.one .adr)), (7, (.one (.int .i64)))] (upds g [(6, y6), (7, y7)]) fun t => Q .ret t w) (t 0) (t 2) (t 6) (t 8) w
theorem F46_3_step (Kr : Value → Value → World → Prop) (t : Tm) (w : World) : (F46_3 Kr (t 0) (t 2) (t 6) (t 8) w) = rsh [(0, (.one .ptr)), (2, (.one (.int .i64))), (6, (.one .adr)), (8, (.one .adr))] t (fun t => vc Tryd.prog (orcOf [([1, 0, 0, 1, 0, 1, 1, 1, 1, 1], F46_1O), ([0, 1, 0, 1, 1, 1, 1, 1], F46_2O)]) [1, 1, 1, 1, 1] (getAt F46_code [1, 1, 1, 1, 1]) (F46_3C Kr) t w) := by kernel_rfl
theorem F46_3_ok : ∀ Q t w, F46_3O Q t w → W Tryd.prog Tryd.f46.ntmps (getAt F46_code [1, 1, 1, 1, 1]) Q t w := by
  intro Q t w h
  unfold F46_3O at h
  rw [F46_3_step] at h
  refine (vc_sound mixed (orcCons (π := [1, 0, 0, 1, 0, 1, 1, 1, 1, 1]) F46_1_ok (orcCons (π := [0, 1, 0, 1, 1, 1, 1, 1]) F46_2_ok (orcNil F46_code))) _ _ rfl (okC_at F46_code_ok [1, 1, 1, 1, 1]) _ _ _ (rsh_out h)).mono ?_
  intro o t w q
  cases o with
  | normal => exact q.elim
  | exit i => exact q.elim
  | ret => exact out_ok [6, 7] q
def F46_4C (Kr : Value → Value → World → Prop) : Post := fun o t w => match o with | .normal => False | .exit i => (False) | .ret => Kr (t 6) (t 7) w
def F46_4 (Kr : Value → Value → World → Prop) (x0 : Value) (x1 : Value) (x2 : Value) (x6 : Value) (w : World) : Prop :=
  rdP x0 fun p1 => rdI .u32 x1 fun n2 => rdI .i64 x2 fun n3 => rdA x6 fun a4 => nn p1 fun a5 => ldP (a5.add 0) w fun p6 => nn p6 fun a7 => ldI .u32 (a7.add 0) w fun n8 => alc (.cells #[(.int .u8 0), (.int .u8 0), (.int .u32 0), (.int .u16 0), (.int .u16 0), (.int .u32 0), (.int .u32 0), (.int .u32 0), (.int .u16 0), (.int .u16 0), (.slice none 0 0), (.slice none 0 0), (.slice none 0 0), (.slice none 0 0), (.slice none 0 0)] 54) w fun b9 w10 => stc ((Addr.mk b9 0 none).add 0) (.int .u8 3) w10 fun w11 => stc ((Addr.mk b9 0 none).add 1) (.int .u8 0) w11 fun w12 => stc ((Addr.mk b9 0 none).add 2) (.int .u32 n8) w12 fun w13 => stc ((Addr.mk b9 0 none).add 3) (.int .u16 0) w13 fun w14 => stc ((Addr.mk b9 0 none).add 4) (.int .u16 0) w14 fun w15 => stc ((Addr.mk b9 0 none).add 5) (.int .u32 0) w15 fun w16 => stc ((Addr.mk b9 0 none).add 6) (.int .u32 0) w16 fun w17 => stc ((Addr.mk b9 0 none).add 7) (.int .u32 n2) w17 fun w18 => stc ((Addr.mk b9 0 none).add 8) (.int .u16 0) w18 fun w19 => stc ((Addr.mk b9 0 none).add 9) (.int .u16 0) w19 fun w20 => stc ((Addr.mk b9 0 none).add 10) (.slice none 0 0) w20 fun w21 => stc ((Addr.mk b9 0 none).add 11) (.slice none 0 0) w21 fun w22 => stc ((Addr.mk b9 0 none).add 12) (.slice none 0 0) w22 fun w23 => stc ((Addr.mk b9 0 none).add 13) (.slice none 0 0) w23 fun w24 => stc ((Addr.mk b9 0 none).add 14) (.slice none 0 0) w24 fun w25 => nn p1 fun a26 => ldB (a26.add 1) w25 fun b27 => Calls Tryd.prog 67 #[(.pointer p1), (.bool false), (.bool (!b27)), (.int .i64 n3)] w25 fun e30 w29 => ∃ l28a l28n l28c, e30 = .returned (.slice l28a l28n l28c) ∧ (stc ((Addr.mk b9 0 none).add 10) (.slice l28a l28n l28c) w29 fun w31 => nn p1 fun a32 => ldB (a32.add 1) w31 fun b33 => br b33 (stc ((Addr.mk b9 0 none).add 0) (.int .u8 16) w31 fun w34 => Calls Tryd.prog 67 #[(.pointer p1), (.bool true), (.bool false), (.int .i64 n3)] w34 fun e37 w36 => ∃ l35a l35n l35c, e37 = .returned (.slice l35a l35n l35c) ∧ (stc ((Addr.mk b9 0 none).add 11) (.slice l35a l35n l35c) w36 fun w38 => F46_3 (fun y6_38 y7_38 w40 => ∀ _g41 : Tm, rdA y6_38 fun a42 => rdI .i64 y7_38 fun n43 => Kr (.pointer (some a42)) (.int .i64 n43) w40) (.pointer p1) (.int .i64 n3) (.pointer (some a4)) (.pointer (some (Addr.mk b9 0 none))) w38)) (F46_3 (fun y6_43 y7_43 w45 => ∀ _g46 : Tm, rdA y6_43 fun a47 => rdI .i64 y7_43 fun n48 => Kr (.pointer (some a47)) (.int .i64 n48) w45) (.pointer p1) (.int .i64 n3) (.pointer (some a4)) (.pointer (some (Addr.mk b9 0 none))) w31))
def F46_4O (Q : Post) (t : Tm) (w : World) : Prop := F46_4 (fun y6 y7 w => ∀ g, rsh [(6, (.one .adr)), (7, (.one (.int .i64)))] (upds g [(6, y6), (7, y7)]) fun t => Q .ret t w) (t 0) (t 1) (t 2) (t 6) w
theorem F46_4_step (Kr : Value → Value → World → Prop) (t : Tm) (w : World) : (F46_4 Kr (t 0) (t 1) (t 2) (t 6) w) = rsh [(0, (.one .ptr)), (1, (.one (.int .u32))), (2, (.one (.int .i64))), (6, (.one .adr))] t (fun t => vc Tryd.prog (orcOf [([1, 0, 0, 1, 0, 1, 1, 1, 1, 1], F46_1O), ([0, 1, 0, 1, 1, 1, 1, 1], F46_2O), ([1, 1, 1, 1, 1], F46_3O)]) [1, 1] (getAt F46_code [1, 1]) (F46_4C Kr) t w) := by kernel_rfl
theorem F46_4_ok : ∀ Q t w, F46_4O Q t w → W Tryd.prog Tryd.f46.ntmps (getAt F46_code [1, 1]) Q t w := by
  intro Q t w h
  unfold F46_4O at h
  rw [F46_4_step] at h
  refine (vc_sound mixed (orcCons (π := [1, 0, 0, 1, 0, 1, 1, 1, 1, 1]) F46_1_ok (orcCons (π := [0, 1, 0, 1, 1, 1, 1, 1]) F46_2_ok (orcCons (π := [1, 1, 1, 1, 1]) F46_3_ok (orcNil F46_code)))) _ _ rfl (okC_at F46_code_ok [1, 1]) _ _ _ (rsh_out h)).mono ?_
  intro o t w q
  cases o with
  | normal => exact q.elim
  | exit i => exact q.elim
  | ret => exact out_ok [6, 7] q
def F46 (x0 : Value) (x1 : Value) (x2 : Value) (w : World) (K : Value → World → Prop) : Prop :=
  rdP x0 fun p1 => rdI .u32 x1 fun n2 => rdI .i64 x2 fun n3 => alc (.cells #[(.int .u8 0), (.int .u8 0), (.int .u32 0), (.int .u16 0), (.int .u16 0), (.int .u32 0), (.int .u32 0), (.int .u32 0), (.int .u16 0), (.int .u16 0), (.slice none 0 0), (.slice none 0 0), (.slice none 0 0), (.slice none 0 0), (.slice none 0 0)] 54) w fun b4 w5 => br (decide ((n3 : Int) < 0)) (stc ((Addr.mk b4 0 none).add 0) (.int .u8 0) w5 fun w6 => stc ((Addr.mk b4 0 none).add 1) (.int .u8 0) w6 fun w7 => stc ((Addr.mk b4 0 none).add 2) (.int .u32 0) w7 fun w8 => stc ((Addr.mk b4 0 none).add 3) (.int .u16 0) w8 fun w9 => stc ((Addr.mk b4 0 none).add 4) (.int .u16 0) w9 fun w10 => stc ((Addr.mk b4 0 none).add 5) (.int .u32 0) w10 fun w11 => stc ((Addr.mk b4 0 none).add 6) (.int .u32 0) w11 fun w12 => stc ((Addr.mk b4 0 none).add 7) (.int .u32 0) w12 fun w13 => stc ((Addr.mk b4 0 none).add 8) (.int .u16 0) w13 fun w14 => stc ((Addr.mk b4 0 none).add 9) (.int .u16 0) w14 fun w15 => stc ((Addr.mk b4 0 none).add 10) (.slice none 0 0) w15 fun w16 => stc ((Addr.mk b4 0 none).add 11) (.slice none 0 0) w16 fun w17 => stc ((Addr.mk b4 0 none).add 12) (.slice none 0 0) w17 fun w18 => stc ((Addr.mk b4 0 none).add 13) (.slice none 0 0) w18 fun w19 => stc ((Addr.mk b4 0 none).add 14) (.slice none 0 0) w19 fun w20 => ldI .u8 ((Addr.mk b4 0 none).add 0) w20 fun n21 => ldI .u8 ((Addr.mk b4 0 none).add 1) w20 fun n22 => ldI .u32 ((Addr.mk b4 0 none).add 2) w20 fun n23 => ldI .u16 ((Addr.mk b4 0 none).add 3) w20 fun n24 => ldI .u16 ((Addr.mk b4 0 none).add 4) w20 fun n25 => ldI .u32 ((Addr.mk b4 0 none).add 5) w20 fun n26 => ldI .u32 ((Addr.mk b4 0 none).add 6) w20 fun n27 => ldI .u32 ((Addr.mk b4 0 none).add 7) w20 fun n28 => ldI .u16 ((Addr.mk b4 0 none).add 8) w20 fun n29 => ldI .u16 ((Addr.mk b4 0 none).add 9) w20 fun n30 => ldC ((Addr.mk b4 0 none).add 10) w20 fun l31a l31n l31c => ldC ((Addr.mk b4 0 none).add 11) w20 fun l32a l32n l32c => ldC ((Addr.mk b4 0 none).add 12) w20 fun l33a l33n l33c => ldC ((Addr.mk b4 0 none).add 13) w20 fun l34a l34n l34c => ldC ((Addr.mk b4 0 none).add 14) w20 fun l35a l35n l35c => K (.tuple #[(.agg #[(.int .u8 n21), (.int .u8 n22), (.int .u32 n23), (.int .u16 n24), (.int .u16 n25), (.int .u32 n26), (.int .u32 n27), (.int .u32 n28), (.int .u16 n29), (.int .u16 n30), (.slice l31a l31n l31c), (.slice l32a l32n l32c), (.slice l33a l33n l33c), (.slice l34a l34n l34c), (.slice l35a l35n l35c)]), (.int .i64 1)]) w20) (br (decide ((n3 : Int) > 4096)) (stc ((Addr.mk b4 0 none).add 0) (.int .u8 0) w5 fun w36 => stc ((Addr.mk b4 0 none).add 1) (.int .u8 0) w36 fun w37 => stc ((Addr.mk b4 0 none).add 2) (.int .u32 0) w37 fun w38 => stc ((Addr.mk b4 0 none).add 3) (.int .u16 0) w38 fun w39 => stc ((Addr.mk b4 0 none).add 4) (.int .u16 0) w39 fun w40 => stc ((Addr.mk b4 0 none).add 5) (.int .u32 0) w40 fun w41 => stc ((Addr.mk b4 0 none).add 6) (.int .u32 0) w41 fun w42 => stc ((Addr.mk b4 0 none).add 7) (.int .u32 0) w42 fun w43 => stc ((Addr.mk b4 0 none).add 8) (.int .u16 0) w43 fun w44 => stc ((Addr.mk b4 0 none).add 9) (.int .u16 0) w44 fun w45 => stc ((Addr.mk b4 0 none).add 10) (.slice none 0 0) w45 fun w46 => stc ((Addr.mk b4 0 none).add 11) (.slice none 0 0) w46 fun w47 => stc ((Addr.mk b4 0 none).add 12) (.slice none 0 0) w47 fun w48 => stc ((Addr.mk b4 0 none).add 13) (.slice none 0 0) w48 fun w49 => stc ((Addr.mk b4 0 none).add 14) (.slice none 0 0) w49 fun w50 => ldI .u8 ((Addr.mk b4 0 none).add 0) w50 fun n51 => ldI .u8 ((Addr.mk b4 0 none).add 1) w50 fun n52 => ldI .u32 ((Addr.mk b4 0 none).add 2) w50 fun n53 => ldI .u16 ((Addr.mk b4 0 none).add 3) w50 fun n54 => ldI .u16 ((Addr.mk b4 0 none).add 4) w50 fun n55 => ldI .u32 ((Addr.mk b4 0 none).add 5) w50 fun n56 => ldI .u32 ((Addr.mk b4 0 none).add 6) w50 fun n57 => ldI .u32 ((Addr.mk b4 0 none).add 7) w50 fun n58 => ldI .u16 ((Addr.mk b4 0 none).add 8) w50 fun n59 => ldI .u16 ((Addr.mk b4 0 none).add 9) w50 fun n60 => ldC ((Addr.mk b4 0 none).add 10) w50 fun l61a l61n l61c => ldC ((Addr.mk b4 0 none).add 11) w50 fun l62a l62n l62c => ldC ((Addr.mk b4 0 none).add 12) w50 fun l63a l63n l63c => ldC ((Addr.mk b4 0 none).add 13) w50 fun l64a l64n l64c => ldC ((Addr.mk b4 0 none).add 14) w50 fun l65a l65n l65c => K (.tuple #[(.agg #[(.int .u8 n51), (.int .u8 n52), (.int .u32 n53), (.int .u16 n54), (.int .u16 n55), (.int .u32 n56), (.int .u32 n57), (.int .u32 n58), (.int .u16 n59), (.int .u16 n60), (.slice l61a l61n l61c), (.slice l62a l62n l62c), (.slice l63a l63n l63c), (.slice l64a l64n l64c), (.slice l65a l65n l65c)]), (.int .i64 1)]) w50) (F46_4 (fun y6_65 y7_65 w67 => ∀ _g68 : Tm, rdA y6_65 fun a69 => rdI .i64 y7_65 fun n70 => ldI .u8 (a69.add 0) w67 fun n71 => ldI .u8 (a69.add 1) w67 fun n72 => ldI .u32 (a69.add 2) w67 fun n73 => ldI .u16 (a69.add 3) w67 fun n74 => ldI .u16 (a69.add 4) w67 fun n75 => ldI .u32 (a69.add 5) w67 fun n76 => ldI .u32 (a69.add 6) w67 fun n77 => ldI .u32 (a69.add 7) w67 fun n78 => ldI .u16 (a69.add 8) w67 fun n79 => ldI .u16 (a69.add 9) w67 fun n80 => ldC (a69.add 10) w67 fun l81a l81n l81c => ldC (a69.add 11) w67 fun l82a l82n l82c => ldC (a69.add 12) w67 fun l83a l83n l83c => ldC (a69.add 13) w67 fun l84a l84n l84c => ldC (a69.add 14) w67 fun l85a l85n l85c => K (.tuple #[(.agg #[(.int .u8 n71), (.int .u8 n72), (.int .u32 n73), (.int .u16 n74), (.int .u16 n75), (.int .u32 n76), (.int .u32 n77), (.int .u32 n78), (.int .u16 n79), (.int .u16 n80), (.slice l81a l81n l81c), (.slice l82a l82n l82c), (.slice l83a l83n l83c), (.slice l84a l84n l84c), (.slice l85a l85n l85c)]), (.int .i64 n70)]) w67) (.pointer p1) (.int .u32 n2) (.int .i64 n3) (.pointer (some (Addr.mk b4 0 none))) w5))
theorem F46_step (x0 : Value) (x1 : Value) (x2 : Value) (w : World) (K : Value → World → Prop) : (F46 x0 x1 x2 w K) = rsh [(0, (.one .ptr)), (1, (.one (.int .u32))), (2, (.one (.int .i64)))] (args0 #[x0, x1, x2]) (fun t => vc Tryd.prog (orcOf [([1, 0, 0, 1, 0, 1, 1, 1, 1, 1], F46_1O), ([0, 1, 0, 1, 1, 1, 1, 1], F46_2O), ([1, 1, 1, 1, 1], F46_3O), ([1, 1], F46_4O)]) [] F46_code (retQ Tryd.prog Tryd.f46 K) t w) := by kernel_rfl
theorem F46_ok {x0 x1 x2 : Value} {w : World} {K : Value → World → Prop} (h : F46 x0 x1 x2 w K) : Calls Tryd.prog 46 #[x0, x1, x2] w fun e w' => ∃ v, e = .returned v ∧ K v w' := by
  rw [F46_step] at h
  exact calls_of (c := F46_code) mixed Tryd.func46 rfl (nlt rfl) (vc_sound mixed (orcCons (π := [1, 0, 0, 1, 0, 1, 1, 1, 1, 1]) F46_1_ok (orcCons (π := [0, 1, 0, 1, 1, 1, 1, 1]) F46_2_ok (orcCons (π := [1, 1, 1, 1, 1]) F46_3_ok (orcCons (π := [1, 1]) F46_4_ok (orcNil F46_code))))) F46_code [] rfl F46_code_ok _ _ _ (rsh_out h))

/-! ropewalk/ropewalkref19.SameReport -/
noncomputable def F47_code : Code := Tryd.f47.body.getD .skip
theorem F47_code_ok : okC Tryd.prog Tryd.f47.ntmps F47_code = true := by kernel_rfl
def F47 (x0 : Value) (x1 : Value) (w : World) (K : Value → World → Prop) : Prop :=
  ∃ n1 n2 n3 n4 n5 n6 n7 n8 n9 n10 l11a l11n l11c l12a l12n l12c l13a l13n l13c l14a l14n l14c l15a l15n l15c, x0 = (.agg #[(.int .u8 n1), (.int .u8 n2), (.int .u32 n3), (.int .u16 n4), (.int .u16 n5), (.int .u32 n6), (.int .u32 n7), (.int .u32 n8), (.int .u16 n9), (.int .u16 n10), (.slice l11a l11n l11c), (.slice l12a l12n l12c), (.slice l13a l13n l13c), (.slice l14a l14n l14c), (.slice l15a l15n l15c)]) ∧ (∃ n16 n17 n18 n19 n20 n21 n22 n23 n24 n25 l26a l26n l26c l27a l27n l27c l28a l28n l28c l29a l29n l29c l30a l30n l30c, x1 = (.agg #[(.int .u8 n16), (.int .u8 n17), (.int .u32 n18), (.int .u16 n19), (.int .u16 n20), (.int .u32 n21), (.int .u32 n22), (.int .u32 n23), (.int .u16 n24), (.int .u16 n25), (.slice l26a l26n l26c), (.slice l27a l27n l27c), (.slice l28a l28n l28c), (.slice l29a l29n l29c), (.slice l30a l30n l30c)]) ∧ (alc (.cells #[(.int .u8 n1), (.int .u8 n2), (.int .u32 n3), (.int .u16 n4), (.int .u16 n5), (.int .u32 n6), (.int .u32 n7), (.int .u32 n8), (.int .u16 n9), (.int .u16 n10), (.slice l11a l11n l11c), (.slice l12a l12n l12c), (.slice l13a l13n l13c), (.slice l14a l14n l14c), (.slice l15a l15n l15c)] 54) w fun b31 w32 => alc (.cells #[(.int .u8 n16), (.int .u8 n17), (.int .u32 n18), (.int .u16 n19), (.int .u16 n20), (.int .u32 n21), (.int .u32 n22), (.int .u32 n23), (.int .u16 n24), (.int .u16 n25), (.slice l26a l26n l26c), (.slice l27a l27n l27c), (.slice l28a l28n l28c), (.slice l29a l29n l29c), (.slice l30a l30n l30c)] 54) w32 fun b33 w34 => ldI .u8 ((Addr.mk b31 0 none).add 0) w34 fun n35 => ldI .u8 ((Addr.mk b33 0 none).add 0) w34 fun n36 => br (n35 == n36) (ldI .u32 ((Addr.mk b31 0 none).add 2) w34 fun n37 => ldI .u32 ((Addr.mk b33 0 none).add 2) w34 fun n38 => br (n37 == n38) (ldI .u32 ((Addr.mk b31 0 none).add 7) w34 fun n39 => ldI .u32 ((Addr.mk b33 0 none).add 7) w34 fun n40 => br (n39 == n40) (ldC ((Addr.mk b31 0 none).add 10) w34 fun l41a l41n l41c => ldC ((Addr.mk b33 0 none).add 10) w34 fun l42a l42n l42c => Calls Tryd.prog 68 #[(.slice l41a l41n l41c), (.slice l42a l42n l42c)] w34 fun e45 w44 => ∃ b43, e45 = .returned (.bool b43) ∧ (br b43 (ldC ((Addr.mk b31 0 none).add 11) w44 fun l46a l46n l46c => ldC ((Addr.mk b33 0 none).add 11) w44 fun l47a l47n l47c => Calls Tryd.prog 68 #[(.slice l46a l46n l46c), (.slice l47a l47n l47c)] w44 fun e50 w49 => ∃ b48, e50 = .returned (.bool b48) ∧ (br b48 (ldC ((Addr.mk b31 0 none).add 12) w49 fun l51a l51n l51c => ldC ((Addr.mk b33 0 none).add 12) w49 fun l52a l52n l52c => Calls Tryd.prog 25 #[(.slice l51a l51n l51c), (.slice l52a l52n l52c)] w49 fun e55 w54 => ∃ b53, e55 = .returned (.bool b53) ∧ (br b53 (ldC ((Addr.mk b31 0 none).add 13) w54 fun l56a l56n l56c => ldC ((Addr.mk b31 0 none).add 14) w54 fun l57a l57n l57c => ldC ((Addr.mk b33 0 none).add 13) w54 fun l58a l58n l58c => ldC ((Addr.mk b33 0 none).add 14) w54 fun l59a l59n l59c => br ((IntKind.wrap .i64 ((l56n : Int) + (l57n : Int))) == (IntKind.wrap .i64 ((l58n : Int) + (l59n : Int)))) (ldI .u8 ((Addr.mk b31 0 none).add 1) w54 fun n60 => ldI .u8 ((Addr.mk b33 0 none).add 1) w54 fun n61 => K (.bool (n60 == n61)) w54) (K (.bool false) w54)) (K (.bool false) w54))) (K (.bool false) w49))) (K (.bool false) w44))) (K (.bool false) w34)) (K (.bool false) w34)) (K (.bool false) w34)))
theorem F47_step (x0 : Value) (x1 : Value) (w : World) (K : Value → World → Prop) : (F47 x0 x1 w K) = rsh [(0, (.agg [(.int .u8), (.int .u8), (.int .u32), (.int .u16), (.int .u16), (.int .u32), (.int .u32), (.int .u32), (.int .u16), (.int .u16), .slc, .slc, .slc, .slc, .slc])), (1, (.agg [(.int .u8), (.int .u8), (.int .u32), (.int .u16), (.int .u16), (.int .u32), (.int .u32), (.int .u32), (.int .u16), (.int .u16), .slc, .slc, .slc, .slc, .slc]))] (args0 #[x0, x1]) (fun t => vc Tryd.prog (orcOf []) [] F47_code (retQ Tryd.prog Tryd.f47 K) t w) := by kernel_rfl
theorem F47_ok {x0 x1 : Value} {w : World} {K : Value → World → Prop} (h : F47 x0 x1 w K) : Calls Tryd.prog 47 #[x0, x1] w fun e w' => ∃ v, e = .returned v ∧ K v w' := by
  rw [F47_step] at h
  exact calls_of (c := F47_code) mixed Tryd.func47 rfl (nlt rfl) (vc_sound mixed (orcNil F47_code) F47_code [] rfl F47_code_ok _ _ _ (rsh_out h))

/-! (*ropewalk/ropewalkref03.Set).Has -/
noncomputable def F48_code : Code := Tryd.f48.body.getD .skip
theorem F48_code_ok : okC Tryd.prog Tryd.f48.ntmps F48_code = true := by kernel_rfl
def F48 (x0 : Value) (x1 : Value) (w : World) (K : Value → World → Prop) : Prop :=
  rdP x0 fun p1 => rdI .u32 x1 fun n2 => nn p1 fun a3 => ldI .u32 (a3.add 0) w fun n4 => Calls Tryd.prog 18 #[(.int .u32 n4), (.int .u32 n2)] w fun e7 w6 => ∃ n5, e7 = .returned (.int .i64 n5) ∧ (br (decide ((n5 : Int) ≤ 0)) (K (.bool true) w6) (Calls Tryd.prog 69 #[(.pointer p1), (.int .i64 n5)] w6 fun e10 w9 => ∃ b8, e10 = .returned (.bool b8) ∧ (K (.bool b8) w9)))
theorem F48_step (x0 : Value) (x1 : Value) (w : World) (K : Value → World → Prop) : (F48 x0 x1 w K) = rsh [(0, (.one .ptr)), (1, (.one (.int .u32)))] (args0 #[x0, x1]) (fun t => vc Tryd.prog (orcOf []) [] F48_code (retQ Tryd.prog Tryd.f48 K) t w) := by kernel_rfl
theorem F48_ok {x0 x1 : Value} {w : World} {K : Value → World → Prop} (h : F48 x0 x1 w K) : Calls Tryd.prog 48 #[x0, x1] w fun e w' => ∃ v, e = .returned v ∧ K v w' := by
  rw [F48_step] at h
  exact calls_of (c := F48_code) mixed Tryd.func48 rfl (nlt rfl) (vc_sound mixed (orcNil F48_code) F48_code [] rfl F48_code_ok _ _ _ (rsh_out h))

/-! (*ropewalk/inbox.Box).blocks -/
noncomputable def F49_code : Code := Tryd.f49.body.getD .skip
theorem F49_code_ok : okC Tryd.prog Tryd.f49.ntmps F49_code = true := by kernel_rfl
def F49_1C (Kn : Value → Value → Value → Value → Value → Value → Value → World → Prop) : Post := fun o t w => match o with | .normal => Kn (t 0) (t 1) (t 2) (t 7) (t 16) (t 17) (t 18) w | .exit i => (False) | .ret => False
def F49_1 (Kn : Value → Value → Value → Value → Value → Value → Value → World → Prop) (x0 : Value) (x1 : Value) (x2 : Value) (x7 : Value) (x10 : Value) (x11 : Value) (x16 : Value) (x17 : Value) (x18 : Value) (x48 : Value) (w : World) : Prop :=
  rdP x0 fun p1 => rdI .i64 x1 fun n2 => rdC x7 fun l3a l3n l3c => rdI .u16 x10 fun n4 => rdI .i64 x11 fun n5 => rdC x16 fun l6a l6n l6c => rdI .i64 x17 fun n7 => rdI .i64 x18 fun n8 => rdB x48 fun b9 => br b9 (ixS 2 l3a l3n (IntKind.wrap .i64 (n5 - 1)) fun a10 => stc (a10.add 1) (.int .u16 n4) w fun w11 => Kn (.pointer p1) (.int .i64 n2) x2 (.slice l3a l3n l3c) (.slice l6a l6n l6c) (.int .i64 n7) (.int .i64 n8) w11) (alc (.cells #[(.int .u16 n4), (.int .u16 n4)] 60) w fun b12 w13 => ∃ l14a l14n l14c w15, Sem.run Tryd.prog (Builtin.append_ #[50, 50] 50 #[(.slice l3a l3n l3c), (.slice (some (Addr.mk b12 0 none)) 1 1)]) w13 = .ok (.slice l14a l14n l14c) w15 ∧ (Kn (.pointer p1) (.int .i64 n2) x2 (.slice l14a l14n l14c) (.slice l6a l6n l6c) (.int .i64 n7) (.int .i64 n8) w15))
def F49_1O (Q : Post) (t : Tm) (w : World) : Prop := F49_1 (fun y0 y1 y2 y7 y16 y17 y18 w => ∀ g, rsh [(0, (.one .ptr)), (1, (.one (.int .i64))), (7, (.one .slc)), (16, (.one .slc)), (17, (.one (.int .i64))), (18, (.one (.int .i64)))] (upds g [(0, y0), (1, y1), (2, y2), (7, y7), (16, y16), (17, y17), (18, y18)]) fun t => Q .normal t w) (t 0) (t 1) (t 2) (t 7) (t 10) (t 11) (t 16) (t 17) (t 18) (t 48) w
theorem F49_1_step (Kn : Value → Value → Value → Value → Value → Value → Value → World → Prop) (t : Tm) (w : World) : (F49_1 Kn (t 0) (t 1) (t 2) (t 7) (t 10) (t 11) (t 16) (t 17) (t 18) (t 48) w) = rsh [(0, (.one .ptr)), (1, (.one (.int .i64))), (7, (.one .slc)), (10, (.one (.int .u16))), (11, (.one (.int .i64))), (16, (.one .slc)), (17, (.one (.int .i64))), (18, (.one (.int .i64))), (48, (.one .bool))] t (fun t => vc Tryd.prog (orcOf []) [1, 1, 1, 1, 1, 0, 0, 1, 1, 0, 0, 1, 0, 1, 1] (getAt F49_code [1, 1, 1, 1, 1, 0, 0, 1, 1, 0, 0, 1, 0, 1, 1]) (F49_1C Kn) t w) := by kernel_rfl
theorem F49_1_ok : ∀ Q t w, F49_1O Q t w → W Tryd.prog Tryd.f49.ntmps (getAt F49_code [1, 1, 1, 1, 1, 0, 0, 1, 1, 0, 0, 1, 0, 1, 1]) Q t w := by
  intro Q t w h
  unfold F49_1O at h
  rw [F49_1_step] at h
  refine (vc_sound mixed (orcNil F49_code) _ _ rfl (okC_at F49_code_ok [1, 1, 1, 1, 1, 0, 0, 1, 1, 0, 0, 1, 0, 1, 1]) _ _ _ (rsh_out h)).mono ?_
  intro o t w q
  cases o with
  | normal => exact out_ok [0, 1, 2, 7, 16, 17, 18] q
  | exit i => exact q.elim
  | ret => exact q.elim
def F49_2C (K0 : Value → Value → World → Prop) : Post := fun o t w => match o with | .normal => False | .exit i => (match Nat.beq i 0 with | true => K0 (t 1) (t 7) w | false => False) | .ret => False
def F49_2B (R : Value → Value → Value → Value → Value → Value → Value → World → Prop) (K0 : Value → Value → World → Prop) (x0 : Value) (x1 : Value) (x2 : Value) (x7 : Value) (x16 : Value) (x17 : Value) (x18 : Value) (w : World) : Prop :=
  rdP x0 fun p1 => rdI .i64 x1 fun n2 => rdC x7 fun l3a l3n l3c => rdC x16 fun l4a l4n l4c => rdI .i64 x17 fun n5 => rdI .i64 x18 fun n6 => br (decide ((n6 : Int) < n5)) (ixS 1 l4a l4n n6 fun a7 => ldI .u32 a7 w fun n8 => callV Tryd.prog x2 #[(.int .u32 n8)] w (.one (.one .bool)) fun r11 w10 => ∃ b12, r11 = (.bool b12) ∧ (br (!b12) (R (.pointer p1) (.int .i64 n2) x2 (.slice l3a l3n l3c) (.slice l4a l4n l4c) (.int .i64 n5) (.int .i64 (IntKind.wrap .i64 (n6 + 1))) w10) (nn p1 fun a13 => ldP (a13.add 0) w10 fun p14 => Calls Tryd.prog 35 #[(.pointer p14)] w10 fun e17 w16 => ∃ n15, e17 = .returned (.int .u32 n15) ∧ (br (decide (((l3n : Int) : Int) > 0)) (ixS 2 l3a l3n (IntKind.wrap .i64 ((l3n : Int) - 1)) fun a18 => ldI .u16 (a18.add 1) w16 fun n19 => F49_1 (fun y0_19 y1_19 y2_19 y7_19 y16_19 y17_19 y18_19 w21 => ∀ _g22 : Tm, rdP y0_19 fun p23 => rdI .i64 y1_19 fun n24 => rdC y7_19 fun l25a l25n l25c => rdC y16_19 fun l26a l26n l26c => rdI .i64 y17_19 fun n27 => rdI .i64 y18_19 fun n28 => R (.pointer p23) (.int .i64 n24) y2_19 (.slice l25a l25n l25c) (.slice l26a l26n l26c) (.int .i64 n27) (.int .i64 (IntKind.wrap .i64 (n28 + 1))) w21) (.pointer p1) (.int .i64 n2) x2 (.slice l3a l3n l3c) (.int .u16 (IntKind.wrap .u16 ((IntKind.wrap .u32 (n8 - n15))))) (.int .i64 (l3n : Int)) (.slice l4a l4n l4c) (.int .i64 n5) (.int .i64 n6) (.bool ((IntKind.wrap .u16 (n19 + 1)) == (IntKind.wrap .u16 ((IntKind.wrap .u32 (n8 - n15)))))) w16) (F49_1 (fun y0_28 y1_28 y2_28 y7_28 y16_28 y17_28 y18_28 w30 => ∀ _g31 : Tm, rdP y0_28 fun p32 => rdI .i64 y1_28 fun n33 => rdC y7_28 fun l34a l34n l34c => rdC y16_28 fun l35a l35n l35c => rdI .i64 y17_28 fun n36 => rdI .i64 y18_28 fun n37 => R (.pointer p32) (.int .i64 n33) y2_28 (.slice l34a l34n l34c) (.slice l35a l35n l35c) (.int .i64 n36) (.int .i64 (IntKind.wrap .i64 (n37 + 1))) w30) (.pointer p1) (.int .i64 n2) x2 (.slice l3a l3n l3c) (.int .u16 (IntKind.wrap .u16 ((IntKind.wrap .u32 (n8 - n15))))) (.int .i64 (l3n : Int)) (.slice l4a l4n l4c) (.int .i64 n5) (.int .i64 n6) (.bool false) w16))))) (K0 (.int .i64 n2) (.slice l3a l3n l3c) w)
def F49_2 (K0 : Value → Value → World → Prop) : Nat → Value → Value → Value → Value → Value → Value → Value → World → Prop
  | 0 => fun _ _ _ _ _ _ _ _ => False
  | n + 1 => F49_2B (F49_2 K0 n) K0
def F49_2O (Q : Post) (t : Tm) (w : World) : Prop := ∃ n, F49_2 (fun y1 y7 w => ∀ g, rsh [(1, (.one (.int .i64))), (7, (.one .slc))] (upds g [(1, y1), (7, y7)]) fun t => Q (.exit 0) t w) n (t 0) (t 1) (t 2) (t 7) (t 16) (t 17) (t 18) w
theorem F49_2_step (K0 : Value → Value → World → Prop) (n : Nat) (t : Tm) (w : World) : (F49_2 K0 (n + 1) (t 0) (t 1) (t 2) (t 7) (t 16) (t 17) (t 18) w) = rsh [(0, (.one .ptr)), (1, (.one (.int .i64))), (7, (.one .slc)), (16, (.one .slc)), (17, (.one (.int .i64))), (18, (.one (.int .i64)))] t (fun t => vc Tryd.prog (orcOf [([1, 1, 1, 1, 1, 0, 0, 1, 1, 0, 0, 1, 0, 1, 1], F49_1O)]) [0, 0, 1, 0, 1, 1] (getAt F49_code [0, 0, 1, 0, 1, 1]) (fun o t w => match o with | .normal => F49_2 K0 n (t 0) (t 1) (t 2) (t 7) (t 16) (t 17) (t 18) w | .exit i => F49_2C K0 (.exit i) t w | .ret => F49_2C K0 .ret t w) t w) := by kernel_rfl
theorem F49_2_ok : ∀ Q t w, F49_2O Q t w → W Tryd.prog Tryd.f49.ntmps (getAt F49_code [0, 1, 0, 1, 1]) Q t w := by
  intro Q t w ⟨n, h⟩
  refine (W_loop (P := Tryd.prog) (b := getAt F49_code [0, 0, 1, 0, 1, 1]) (Q := F49_2C (fun y1 y7 w => ∀ g, rsh [(1, (.one (.int .i64))), (7, (.one .slc))] (upds g [(1, y1), (7, y7)]) fun t => Q (.exit 0) t w)) (G := fun n t w => F49_2 (fun y1 y7 w => ∀ g, rsh [(1, (.one (.int .i64))), (7, (.one .slc))] (upds g [(1, y1), (7, y7)]) fun t => Q (.exit 0) t w) n (t 0) (t 1) (t 2) (t 7) (t 16) (t 17) (t 18) w) (fun _ _ h => h) (fun n t w h => ?_) n t w h).mono ?_
  · rw [F49_2_step] at h
    exact vc_sound mixed (orcCons (π := [1, 1, 1, 1, 1, 0, 0, 1, 1, 0, 0, 1, 0, 1, 1]) F49_1_ok (orcNil F49_code)) _ _ rfl (okC_at F49_code_ok [0, 0, 1, 0, 1, 1]) _ _ _ (rsh_out h)
  · intro o t w q
    cases o with
    | normal => exact q.elim
    | exit i =>
      unfold F49_2C at q
      simp only at q
      split at q
      · rename_i hi
        rw [nbeq] at hi
        subst hi
        exact out_ok [1, 7] q
      · exact q.elim
    | ret => exact q.elim
def F49 (x0 : Value) (x1 : Value) (x2 : Value) (w : World) (K : Value → World → Prop) : Prop :=
  rdP x0 fun p1 => rdI .i64 x1 fun n2 => nn p1 fun a3 => ldP (a3.add 0) w fun p4 => Calls Tryd.prog 55 #[(.pointer p4)] w fun e7 w6 => ∃ l5a l5n l5c, e7 = .returned (.slice l5a l5n l5c) ∧ (∃ k14 : Nat, F49_2 (fun y1_7 y7_7 w9 => ∀ _g10 : Tm, rdI .i64 y1_7 fun n11 => rdC y7_7 fun l12a l12n l12c => slS 2 l12a l12n l12c none (some (.int .i64 (if ((l12n : Int) : Int) < n11 then (l12n : Int) else n11))) fun l13a l13n l13c => K (.slice l13a l13n l13c) w9) k14 (.pointer p1) (.int .i64 n2) x2 (.slice none 0 0) (.slice l5a l5n l5c) (.int .i64 (l5n : Int)) (.int .i64 0) w6)
theorem F49_step (x0 : Value) (x1 : Value) (x2 : Value) (w : World) (K : Value → World → Prop) : (F49 x0 x1 x2 w K) = rsh [(0, (.one .ptr)), (1, (.one (.int .i64)))] (args0 #[x0, x1, x2]) (fun t => vc Tryd.prog (orcOf [([1, 1, 1, 1, 1, 0, 0, 1, 1, 0, 0, 1, 0, 1, 1], F49_1O), ([0, 1, 0, 1, 1], F49_2O)]) [] F49_code (retQ Tryd.prog Tryd.f49 K) t w) := by kernel_rfl
theorem F49_ok {x0 x1 x2 : Value} {w : World} {K : Value → World → Prop} (h : F49 x0 x1 x2 w K) : Calls Tryd.prog 49 #[x0, x1, x2] w fun e w' => ∃ v, e = .returned v ∧ K v w' := by
  rw [F49_step] at h
  exact calls_of (c := F49_code) mixed Tryd.func49 rfl (nlt rfl) (vc_sound mixed (orcCons (π := [1, 1, 1, 1, 1, 0, 0, 1, 1, 0, 0, 1, 0, 1, 1]) F49_1_ok (orcCons (π := [0, 1, 0, 1, 1]) F49_2_ok (orcNil F49_code))) F49_code [] rfl F49_code_ok _ _ _ (rsh_out h))

/-! (*ropewalk/inbox.Box).Report$1 -/
noncomputable def F50_code : Code := Tryd.f50.body.getD .skip
theorem F50_code_ok : okC Tryd.prog Tryd.f50.ntmps F50_code = true := by kernel_rfl
def F50 (x0 : Value) (x1 : Value) (w : World) (K : Value → World → Prop) : Prop :=
  rdI .u32 x0 fun n1 => rdA x1 fun a2 => ldP a2 w fun p3 => nn p3 fun a4 => ldB (a4.add 4) w fun b5 => br (!b5) (K (.bool true) w) (ldP a2 w fun p6 => Calls Tryd.prog 39 #[(.pointer p6), (.int .u32 n1)] w fun e9 w8 => ∃ b7, e9 = .returned (.bool b7) ∧ (K (.bool (!b7)) w8))
theorem F50_step (x0 : Value) (x1 : Value) (w : World) (K : Value → World → Prop) : (F50 x0 x1 w K) = rsh [(0, (.one (.int .u32))), (1, (.one .adr))] (args0 #[x0, x1]) (fun t => vc Tryd.prog (orcOf []) [] F50_code (retQ Tryd.prog Tryd.f50 K) t w) := by kernel_rfl
theorem F50_ok {x0 x1 : Value} {w : World} {K : Value → World → Prop} (h : F50 x0 x1 w K) : Calls Tryd.prog 50 #[x0, x1] w fun e w' => ∃ v, e = .returned v ∧ K v w' := by
  rw [F50_step] at h
  exact calls_of (c := F50_code) mixed Tryd.func50 rfl (nlt rfl) (vc_sound mixed (orcNil F50_code) F50_code [] rfl F50_code_ok _ _ _ (rsh_out h))

/-! slices.Clone[[]uint32,uint32] -/
noncomputable def F51_code : Code := Tryd.f51.body.getD .skip
theorem F51_code_ok : okC Tryd.prog Tryd.f51.ntmps F51_code = true := by kernel_rfl
def F51 (x0 : Value) (w : World) (K : Value → World → Prop) : Prop :=
  rdC x0 fun l1a l1n l1c => br (Option.isNone l1a) (K (.slice none 0 0) w) (∃ l2a l2n l2c w3, Sem.run Tryd.prog (Instr.buildSlice 34 0 #[]) w = .ok (.slice l2a l2n l2c) w3 ∧ (∃ l4a l4n l4c w5, Sem.run Tryd.prog (Builtin.append_ #[34, 34] 34 #[(.slice l2a l2n l2c), (.slice l1a l1n l1c)]) w3 = .ok (.slice l4a l4n l4c) w5 ∧ (K (.slice l4a l4n l4c) w5)))
theorem F51_step (x0 : Value) (w : World) (K : Value → World → Prop) : (F51 x0 w K) = rsh [(0, (.one .slc))] (args0 #[x0]) (fun t => vc Tryd.prog (orcOf []) [] F51_code (retQ Tryd.prog Tryd.f51 K) t w) := by kernel_rfl
theorem F51_ok {x0 : Value} {w : World} {K : Value → World → Prop} (h : F51 x0 w K) : Calls Tryd.prog 51 #[x0] w fun e w' => ∃ v, e = .returned v ∧ K v w' := by
  rw [F51_step] at h
  exact calls_of (c := F51_code) mixed Tryd.func51 rfl (nlt rfl) (vc_sound mixed (orcNil F51_code) F51_code [] rfl F51_code_ok _ _ _ (rsh_out h))

/-! ropewalk/ropewalkref01.diff -/
noncomputable def F52_code : Code := Tryd.f52.body.getD .skip
theorem F52_code_ok : okC Tryd.prog Tryd.f52.ntmps F52_code = true := by kernel_rfl
def F52 (x0 : Value) (x1 : Value) (x2 : Value) (w : World) (K : Value → World → Prop) : Prop :=
  rdI .i64 x0 fun n1 => rdI .i64 x1 fun n2 => rdI .i64 x2 fun n3 => nz n3 (br (decide (((Int.tmod (IntKind.wrap .i64 (n2 - n1)) n3) : Int) < 0)) (br (decide (((IntKind.wrap .i64 ((Int.tmod (IntKind.wrap .i64 (n2 - n1)) n3) + n3)) : Int) ≥ (IntKind.wrap .i64 (Int.tdiv n3 2)))) (K (.int .i64 (IntKind.wrap .i64 ((IntKind.wrap .i64 ((Int.tmod (IntKind.wrap .i64 (n2 - n1)) n3) + n3)) - n3))) w) (K (.int .i64 (IntKind.wrap .i64 ((Int.tmod (IntKind.wrap .i64 (n2 - n1)) n3) + n3))) w)) (br (decide (((Int.tmod (IntKind.wrap .i64 (n2 - n1)) n3) : Int) ≥ (IntKind.wrap .i64 (Int.tdiv n3 2)))) (K (.int .i64 (IntKind.wrap .i64 ((Int.tmod (IntKind.wrap .i64 (n2 - n1)) n3) - n3))) w) (K (.int .i64 (Int.tmod (IntKind.wrap .i64 (n2 - n1)) n3)) w)))
theorem F52_step (x0 : Value) (x1 : Value) (x2 : Value) (w : World) (K : Value → World → Prop) : (F52 x0 x1 x2 w K) = rsh [(0, (.one (.int .i64))), (1, (.one (.int .i64))), (2, (.one (.int .i64)))] (args0 #[x0, x1, x2]) (fun t => vc Tryd.prog (orcOf []) [] F52_code (retQ Tryd.prog Tryd.f52 K) t w) := by kernel_rfl
theorem F52_ok {x0 x1 x2 : Value} {w : World} {K : Value → World → Prop} (h : F52 x0 x1 x2 w K) : Calls Tryd.prog 52 #[x0, x1, x2] w fun e w' => ∃ v, e = .returned v ∧ K v w' := by
  rw [F52_step] at h
  exact calls_of (c := F52_code) mixed Tryd.func52 rfl (nlt rfl) (vc_sound mixed (orcNil F52_code) F52_code [] rfl F52_code_ok _ _ _ (rsh_out h))

/-! (*ropewalk/spans.Set).Has -/
noncomputable def F53_code : Code := Tryd.f53.body.getD .skip
theorem F53_code_ok : okC Tryd.prog Tryd.f53.ntmps F53_code = true := by kernel_rfl
def F53 (x0 : Value) (x1 : Value) (w : World) (K : Value → World → Prop) : Prop :=
  rdP x0 fun p1 => rdI .u32 x1 fun n2 => Calls Tryd.prog 60 #[(.pointer p1)] w fun e5 w4 => ∃ b3, e5 = .returned (.bool b3) ∧ (br (!b3) (K (.bool false) w4) (Calls Tryd.prog 70 #[(.pointer p1), (.int .u32 n2)] w4 fun e8 w7 => ∃ n6, e8 = .returned (.int .i64 n6) ∧ (nn p1 fun a9 => ldI .u32 (a9.add 2) w7 fun n10 => Calls Tryd.prog 61 #[(.int .u32 n10), (.int .u32 n2)] w7 fun e13 w12 => ∃ n11, e13 = .returned (.int .i64 n11) ∧ (br (decide ((n11 : Int) ≤ 0)) (K (.bool true) w12) (br (decide ((n6 : Int) > 0)) (nn p1 fun a14 => Calls Tryd.prog 63 #[(.pointer (some (a14.add 0))), (.int .i64 n6)] w12 fun e17 w16 => ∃ b15, e17 = .returned (.bool b15) ∧ (K (.bool b15) w16)) (K (.bool false) w12))))))
theorem F53_step (x0 : Value) (x1 : Value) (w : World) (K : Value → World → Prop) : (F53 x0 x1 w K) = rsh [(0, (.one .ptr)), (1, (.one (.int .u32)))] (args0 #[x0, x1]) (fun t => vc Tryd.prog (orcOf []) [] F53_code (retQ Tryd.prog Tryd.f53 K) t w) := by kernel_rfl
theorem F53_ok {x0 x1 : Value} {w : World} {K : Value → World → Prop} (h : F53 x0 x1 w K) : Calls Tryd.prog 53 #[x0, x1] w fun e w' => ∃ v, e = .returned v ∧ K v w' := by
  rw [F53_step] at h
  exact calls_of (c := F53_code) mixed Tryd.func53 rfl (nlt rfl) (vc_sound mixed (orcNil F53_code) F53_code [] rfl F53_code_ok _ _ _ (rsh_out h))

/-! ropewalk/ropewalkref03.New -/
noncomputable def F54_code : Code := Tryd.f54.body.getD .skip
theorem F54_code_ok : okC Tryd.prog Tryd.f54.ntmps F54_code = true := by kernel_rfl
def F54 (x0 : Value) (w : World) (K : Value → World → Prop) : Prop :=
  rdI .u32 x0 fun n1 => alc (.cells #[(.int .u32 n1), (.slice none 0 0)] 32) w fun b2 w3 => K (.pointer (some (Addr.mk b2 0 none))) w3
theorem F54_step (x0 : Value) (w : World) (K : Value → World → Prop) : (F54 x0 w K) = rsh [(0, (.one (.int .u32)))] (args0 #[x0]) (fun t => vc Tryd.prog (orcOf []) [] F54_code (retQ Tryd.prog Tryd.f54 K) t w) := by kernel_rfl
theorem F54_ok {x0 : Value} {w : World} {K : Value → World → Prop} (h : F54 x0 w K) : Calls Tryd.prog 54 #[x0] w fun e w' => ∃ v, e = .returned v ∧ K v w' := by
  rw [F54_step] at h
  exact calls_of (c := F54_code) mixed Tryd.func54 rfl (nlt rfl) (vc_sound mixed (orcNil F54_code) F54_code [] rfl F54_code_ok _ _ _ (rsh_out h))

/-! (*ropewalk/spans.Set).All -/
noncomputable def F55_code : Code := Tryd.f55.body.getD .skip
theorem F55_code_ok : okC Tryd.prog Tryd.f55.ntmps F55_code = true := by kernel_rfl
def F55 (x0 : Value) (w : World) (K : Value → World → Prop) : Prop :=
  rdP x0 fun p1 => alc (.cells #[(.pointer p1)] 77) w fun b2 w3 => ldP (Addr.mk b2 0 none) w3 fun p4 => Calls Tryd.prog 60 #[(.pointer p4)] w3 fun e7 w6 => ∃ b5, e7 = .returned (.bool b5) ∧ (br (!b5) (K (.slice none 0 0) w6) (alc (.cells #[(.slice none 0 0)] 34) w6 fun b8 w9 => ldP (Addr.mk b2 0 none) w9 fun p10 => nn p10 fun a11 => Calls Tryd.prog 71 #[(.pointer (some (a11.add 0))), (.func (.func 72) #[] #[(.pointer (some (Addr.mk b8 0 none))), (.pointer (some (Addr.mk b2 0 none)))])] w9 fun e13 w12 => e13 = .returned (.tuple #[]) ∧ (ldC (Addr.mk b8 0 none) w12 fun l14a l14n l14c => K (.slice l14a l14n l14c) w12)))
theorem F55_step (x0 : Value) (w : World) (K : Value → World → Prop) : (F55 x0 w K) = rsh [(0, (.one .ptr))] (args0 #[x0]) (fun t => vc Tryd.prog (orcOf []) [] F55_code (retQ Tryd.prog Tryd.f55 K) t w) := by kernel_rfl
theorem F55_ok {x0 : Value} {w : World} {K : Value → World → Prop} (h : F55 x0 w K) : Calls Tryd.prog 55 #[x0] w fun e w' => ∃ v, e = .returned v ∧ K v w' := by
  rw [F55_step] at h
  exact calls_of (c := F55_code) mixed Tryd.func55 rfl (nlt rfl) (vc_sound mixed (orcNil F55_code) F55_code [] rfl F55_code_ok _ _ _ (rsh_out h))

/-! ropewalk/spans.New -/
noncomputable def F56_code : Code := Tryd.f56.body.getD .skip
theorem F56_code_ok : okC Tryd.prog Tryd.f56.ntmps F56_code = true := by kernel_rfl
def F56 (x0 : Value) (w : World) (K : Value → World → Prop) : Prop :=
  rdI .u32 x0 fun n1 => alc (.map #[] 0) w fun b2 w3 => alc (.cells #[(.map (some b2)), (.int .i64 0), (.int .u32 n1)] 99) w3 fun b4 w5 => K (.pointer (some (Addr.mk b4 0 none))) w5
theorem F56_step (x0 : Value) (w : World) (K : Value → World → Prop) : (F56 x0 w K) = rsh [(0, (.one (.int .u32)))] (args0 #[x0]) (fun t => vc Tryd.prog (orcOf []) [] F56_code (retQ Tryd.prog Tryd.f56 K) t w) := by kernel_rfl
theorem F56_ok {x0 : Value} {w : World} {K : Value → World → Prop} (h : F56 x0 w K) : Calls Tryd.prog 56 #[x0] w fun e w' => ∃ v, e = .returned v ∧ K v w' := by
  rw [F56_step] at h
  exact calls_of (c := F56_code) mixed Tryd.func56 rfl (nlt rfl) (vc_sound mixed (orcNil F56_code) F56_code [] rfl F56_code_ok _ _ _ (rsh_out h))

/-! (*ropewalk/spans.Set).Del -/
noncomputable def F57_code : Code := Tryd.f57.body.getD .skip
theorem F57_code_ok : okC Tryd.prog Tryd.f57.ntmps F57_code = true := by kernel_rfl
def F57 (x0 : Value) (x1 : Value) (w : World) (K : Value → World → Prop) : Prop :=
  rdP x0 fun p1 => rdI .u32 x1 fun n2 => Calls Tryd.prog 60 #[(.pointer p1)] w fun e5 w4 => ∃ b3, e5 = .returned (.bool b3) ∧ (br (!b3) (K (.bool false) w4) (Calls Tryd.prog 70 #[(.pointer p1), (.int .u32 n2)] w4 fun e8 w7 => ∃ n6, e8 = .returned (.int .i64 n6) ∧ (br (decide ((n6 : Int) > 0)) (nn p1 fun a9 => Calls Tryd.prog 73 #[(.pointer (some (a9.add 0))), (.int .i64 n6)] w7 fun e12 w11 => ∃ b10, e12 = .returned (.bool b10) ∧ (K (.bool b10) w11)) (K (.bool false) w7))))
theorem F57_step (x0 : Value) (x1 : Value) (w : World) (K : Value → World → Prop) : (F57 x0 x1 w K) = rsh [(0, (.one .ptr)), (1, (.one (.int .u32)))] (args0 #[x0, x1]) (fun t => vc Tryd.prog (orcOf []) [] F57_code (retQ Tryd.prog Tryd.f57 K) t w) := by kernel_rfl
theorem F57_ok {x0 x1 : Value} {w : World} {K : Value → World → Prop} (h : F57 x0 x1 w K) : Calls Tryd.prog 57 #[x0, x1] w fun e w' => ∃ v, e = .returned v ∧ K v w' := by
  rw [F57_step] at h
  exact calls_of (c := F57_code) mixed Tryd.func57 rfl (nlt rfl) (vc_sound mixed (orcNil F57_code) F57_code [] rfl F57_code_ok _ _ _ (rsh_out h))

/-! slices.DeleteFunc[[]uint32,uint32] -/
noncomputable def F58_code : Code := Tryd.f58.body.getD .skip
theorem F58_code_ok : okC Tryd.prog Tryd.f58.ntmps F58_code = true := by kernel_rfl
def F58_1C (K0 : Value → Value → World → Prop) : Post := fun o t w => match o with | .normal => False | .exit i => (match Nat.beq i 0 with | true => K0 (t 0) (t 5) w | false => False) | .ret => False
def F58_1B (R : Value → Value → Value → Value → World → Prop) (K0 : Value → Value → World → Prop) (x0 : Value) (x1 : Value) (x5 : Value) (x6 : Value) (w : World) : Prop :=
  rdC x0 fun l1a l1n l1c => rdI .i64 x5 fun n2 => rdI .i64 x6 fun n3 => br (decide ((n3 : Int) < (l1n : Int))) (ixS 1 l1a l1n n3 fun a4 => ldI .u32 a4 w fun n5 => callV Tryd.prog x1 #[(.int .u32 n5)] w (.one (.one .bool)) fun r8 w7 => ∃ b9, r8 = (.bool b9) ∧ (br (!b9) (ixS 1 l1a l1n n2 fun a10 => stc a10 (.int .u32 n5) w7 fun w11 => R (.slice l1a l1n l1c) x1 (.int .i64 (IntKind.wrap .i64 (n2 + 1))) (.int .i64 (IntKind.wrap .i64 (n3 + 1))) w11) (R (.slice l1a l1n l1c) x1 (.int .i64 n2) (.int .i64 (IntKind.wrap .i64 (n3 + 1))) w7))) (K0 (.slice l1a l1n l1c) (.int .i64 n2) w)
def F58_1 (K0 : Value → Value → World → Prop) : Nat → Value → Value → Value → Value → World → Prop
  | 0 => fun _ _ _ _ _ => False
  | n + 1 => F58_1B (F58_1 K0 n) K0
def F58_1O (Q : Post) (t : Tm) (w : World) : Prop := ∃ n, F58_1 (fun y0 y5 w => ∀ g, rsh [(0, (.one .slc)), (5, (.one (.int .i64)))] (upds g [(0, y0), (5, y5)]) fun t => Q (.exit 0) t w) n (t 0) (t 1) (t 5) (t 6) w
theorem F58_1_step (K0 : Value → Value → World → Prop) (n : Nat) (t : Tm) (w : World) : (F58_1 K0 (n + 1) (t 0) (t 1) (t 5) (t 6) w) = rsh [(0, (.one .slc)), (5, (.one (.int .i64))), (6, (.one (.int .i64)))] t (fun t => vc Tryd.prog (orcOf []) [0, 0, 1, 0, 1, 1, 1] (getAt F58_code [0, 0, 1, 0, 1, 1, 1]) (fun o t w => match o with | .normal => F58_1 K0 n (t 0) (t 1) (t 5) (t 6) w | .exit i => F58_1C K0 (.exit i) t w | .ret => F58_1C K0 .ret t w) t w) := by kernel_rfl
theorem F58_1_ok : ∀ Q t w, F58_1O Q t w → W Tryd.prog Tryd.f58.ntmps (getAt F58_code [0, 1, 0, 1, 1, 1]) Q t w := by
  intro Q t w ⟨n, h⟩
  refine (W_loop (P := Tryd.prog) (b := getAt F58_code [0, 0, 1, 0, 1, 1, 1]) (Q := F58_1C (fun y0 y5 w => ∀ g, rsh [(0, (.one .slc)), (5, (.one (.int .i64)))] (upds g [(0, y0), (5, y5)]) fun t => Q (.exit 0) t w)) (G := fun n t w => F58_1 (fun y0 y5 w => ∀ g, rsh [(0, (.one .slc)), (5, (.one (.int .i64)))] (upds g [(0, y0), (5, y5)]) fun t => Q (.exit 0) t w) n (t 0) (t 1) (t 5) (t 6) w) (fun _ _ h => h) (fun n t w h => ?_) n t w h).mono ?_
  · rw [F58_1_step] at h
    exact vc_sound mixed (orcNil F58_code) _ _ rfl (okC_at F58_code_ok [0, 0, 1, 0, 1, 1, 1]) _ _ _ (rsh_out h)
  · intro o t w q
    cases o with
    | normal => exact q.elim
    | exit i =>
      unfold F58_1C at q
      simp only at q
      split at q
      · rename_i hi
        rw [nbeq] at hi
        subst hi
        exact out_ok [0, 5] q
      · exact q.elim
    | ret => exact q.elim
def F58 (x0 : Value) (x1 : Value) (w : World) (K : Value → World → Prop) : Prop :=
  rdC x0 fun l1a l1n l1c => Calls Tryd.prog 74 #[(.slice l1a l1n l1c), x1] w fun e4 w3 => ∃ n2, e4 = .returned (.int .i64 n2) ∧ (br (n2 == (-1)) (K (.slice l1a l1n l1c) w3) (∃ k13 : Nat, F58_1 (fun y0_4 y5_4 w6 => ∀ _g7 : Tm, rdC y0_4 fun l8a l8n l8c => rdI .i64 y5_4 fun n9 => slS 1 l8a l8n l8c (some (.int .i64 n9)) none fun l10a l10n l10c => ∃ w11, Sem.run Tryd.prog (Builtin.clear_ #[34] 0 #[(.slice l10a l10n l10c)]) w6 = .ok (.tuple #[]) w11 ∧ (slS 1 l8a l8n l8c none (some (.int .i64 n9)) fun l12a l12n l12c => K (.slice l12a l12n l12c) w11)) k13 (.slice l1a l1n l1c) x1 (.int .i64 n2) (.int .i64 (IntKind.wrap .i64 (n2 + 1))) w3))
theorem F58_step (x0 : Value) (x1 : Value) (w : World) (K : Value → World → Prop) : (F58 x0 x1 w K) = rsh [(0, (.one .slc))] (args0 #[x0, x1]) (fun t => vc Tryd.prog (orcOf [([0, 1, 0, 1, 1, 1], F58_1O)]) [] F58_code (retQ Tryd.prog Tryd.f58 K) t w) := by kernel_rfl
theorem F58_ok {x0 x1 : Value} {w : World} {K : Value → World → Prop} (h : F58 x0 x1 w K) : Calls Tryd.prog 58 #[x0, x1] w fun e w' => ∃ v, e = .returned v ∧ K v w' := by
  rw [F58_step] at h
  exact calls_of (c := F58_code) mixed Tryd.func58 rfl (nlt rfl) (vc_sound mixed (orcCons (π := [0, 1, 0, 1, 1, 1]) F58_1_ok (orcNil F58_code)) F58_code [] rfl F58_code_ok _ _ _ (rsh_out h))

/-! (*ropewalk/inbox.Box).Fixed$1 -/
noncomputable def F59_code : Code := Tryd.f59.body.getD .skip
theorem F59_code_ok : okC Tryd.prog Tryd.f59.ntmps F59_code = true := by kernel_rfl
def F59 (x0 : Value) (x1 : Value) (w : World) (K : Value → World → Prop) : Prop :=
  rdI .u32 x0 fun n1 => rdA x1 fun a2 => ldP a2 w fun p3 => Calls Tryd.prog 39 #[(.pointer p3), (.int .u32 n1)] w fun e6 w5 => ∃ b4, e6 = .returned (.bool b4) ∧ (K (.bool (!b4)) w5)
theorem F59_step (x0 : Value) (x1 : Value) (w : World) (K : Value → World → Prop) : (F59 x0 x1 w K) = rsh [(0, (.one (.int .u32))), (1, (.one .adr))] (args0 #[x0, x1]) (fun t => vc Tryd.prog (orcOf []) [] F59_code (retQ Tryd.prog Tryd.f59 K) t w) := by kernel_rfl
theorem F59_ok {x0 x1 : Value} {w : World} {K : Value → World → Prop} (h : F59 x0 x1 w K) : Calls Tryd.prog 59 #[x0, x1] w fun e w' => ∃ v, e = .returned v ∧ K v w' := by
  rw [F59_step] at h
  exact calls_of (c := F59_code) mixed Tryd.func59 rfl (nlt rfl) (vc_sound mixed (orcNil F59_code) F59_code [] rfl F59_code_ok _ _ _ (rsh_out h))

/-! (*ropewalk/spans.Set).made -/
noncomputable def F60_code : Code := Tryd.f60.body.getD .skip
theorem F60_code_ok : okC Tryd.prog Tryd.f60.ntmps F60_code = true := by kernel_rfl
def F60 (x0 : Value) (w : World) (K : Value → World → Prop) : Prop :=
  rdP x0 fun p1 => br (!(Option.isNone p1)) (nn p1 fun a2 => ldM ((a2.add 0).add 0) w fun m3 => K (.bool (!(Option.isNone m3))) w) (K (.bool false) w)
theorem F60_step (x0 : Value) (w : World) (K : Value → World → Prop) : (F60 x0 w K) = rsh [(0, (.one .ptr))] (args0 #[x0]) (fun t => vc Tryd.prog (orcOf []) [] F60_code (retQ Tryd.prog Tryd.f60 K) t w) := by kernel_rfl
theorem F60_ok {x0 : Value} {w : World} {K : Value → World → Prop} (h : F60 x0 w K) : Calls Tryd.prog 60 #[x0] w fun e w' => ∃ v, e = .returned v ∧ K v w' := by
  rw [F60_step] at h
  exact calls_of (c := F60_code) mixed Tryd.func60 rfl (nlt rfl) (vc_sound mixed (orcNil F60_code) F60_code [] rfl F60_code_ok _ _ _ (rsh_out h))

/-! ropewalk/serial.Diff -/
noncomputable def F61_code : Code := Tryd.f61.body.getD .skip
theorem F61_code_ok : okC Tryd.prog Tryd.f61.ntmps F61_code = true := by kernel_rfl
def F61 (x0 : Value) (x1 : Value) (w : World) (K : Value → World → Prop) : Prop :=
  rdI .u32 x0 fun n1 => rdI .u32 x1 fun n2 => Calls Tryd.prog 75 #[(.int .u32 n1), (.int .u32 n2)] w fun e5 w4 => ∃ n3, e5 = .returned (.int .i64 n3) ∧ (K (.int .i64 n3) w4)
theorem F61_step (x0 : Value) (x1 : Value) (w : World) (K : Value → World → Prop) : (F61 x0 x1 w K) = rsh [(0, (.one (.int .u32))), (1, (.one (.int .u32)))] (args0 #[x0, x1]) (fun t => vc Tryd.prog (orcOf []) [] F61_code (retQ Tryd.prog Tryd.f61 K) t w) := by kernel_rfl
theorem F61_ok {x0 x1 : Value} {w : World} {K : Value → World → Prop} (h : F61 x0 x1 w K) : Calls Tryd.prog 61 #[x0, x1] w fun e w' => ∃ v, e = .returned v ∧ K v w' := by
  rw [F61_step] at h
  exact calls_of (c := F61_code) mixed Tryd.func61 rfl (nlt rfl) (vc_sound mixed (orcNil F61_code) F61_code [] rfl F61_code_ok _ _ _ (rsh_out h))

/-! (*ropewalk/spans.field).put -/
noncomputable def F62_code : Code := Tryd.f62.body.getD .skip
theorem F62_code_ok : okC Tryd.prog Tryd.f62.ntmps F62_code = true := by kernel_rfl
def F62 (x0 : Value) (x1 : Value) (w : World) (K : Value → World → Prop) : Prop :=
  rdP x0 fun p1 => rdI .i64 x1 fun n2 => Calls Tryd.prog 63 #[(.pointer p1), (.int .i64 n2)] w fun e5 w4 => ∃ b3, e5 = .returned (.bool b3) ∧ (br b3 (K (.bool false) w4) (Calls Tryd.prog 76 #[(.pointer p1), (.int .i64 n2)] w4 fun e9 w8 => ∃ n6 n7, e9 = .returned (.tuple #[(.int .i64 n6), (.int .u64 n7)]) ∧ (nn p1 fun a10 => ldM (a10.add 0) w8 fun m11 => ∃ n12, lookF Tryd.prog 3 83 (.map m11) (.int .i64 n6) false w8 = some (.int .u64 n12) ∧ (∃ w13, Sem.run Tryd.prog (Instr.mapUpdate 95 (.map m11) (.int .i64 n6) (.int .u64 (bitI .or .u64 n12 n7))) w8 = .ok () w13 ∧ (nn p1 fun a14 => ldI .i64 (a14.add 1) w13 fun n15 => nn p1 fun a16 => stc (a16.add 1) (.int .i64 (IntKind.wrap .i64 (n15 + 1))) w13 fun w17 => K (.bool true) w17)))))
theorem F62_step (x0 : Value) (x1 : Value) (w : World) (K : Value → World → Prop) : (F62 x0 x1 w K) = rsh [(0, (.one .ptr)), (1, (.one (.int .i64)))] (args0 #[x0, x1]) (fun t => vc Tryd.prog (orcOf []) [] F62_code (retQ Tryd.prog Tryd.f62 K) t w) := by kernel_rfl
theorem F62_ok {x0 x1 : Value} {w : World} {K : Value → World → Prop} (h : F62 x0 x1 w K) : Calls Tryd.prog 62 #[x0, x1] w fun e w' => ∃ v, e = .returned v ∧ K v w' := by
  rw [F62_step] at h
  exact calls_of (c := F62_code) mixed Tryd.func62 rfl (nlt rfl) (vc_sound mixed (orcNil F62_code) F62_code [] rfl F62_code_ok _ _ _ (rsh_out h))

/-! (*ropewalk/spans.field).holds -/
noncomputable def F63_code : Code := Tryd.f63.body.getD .skip
theorem F63_code_ok : okC Tryd.prog Tryd.f63.ntmps F63_code = true := by kernel_rfl
def F63 (x0 : Value) (x1 : Value) (w : World) (K : Value → World → Prop) : Prop :=
  rdP x0 fun p1 => rdI .i64 x1 fun n2 => Calls Tryd.prog 76 #[(.pointer p1), (.int .i64 n2)] w fun e6 w5 => ∃ n3 n4, e6 = .returned (.tuple #[(.int .i64 n3), (.int .u64 n4)]) ∧ (nn p1 fun a7 => ldM (a7.add 0) w5 fun m8 => ∃ n9, lookF Tryd.prog 3 83 (.map m8) (.int .i64 n3) false w5 = some (.int .u64 n9) ∧ (K (.bool ((bitI .and .u64 n9 n4) != 0)) w5))
theorem F63_step (x0 : Value) (x1 : Value) (w : World) (K : Value → World → Prop) : (F63 x0 x1 w K) = rsh [(0, (.one .ptr)), (1, (.one (.int .i64)))] (args0 #[x0, x1]) (fun t => vc Tryd.prog (orcOf []) [] F63_code (retQ Tryd.prog Tryd.f63 K) t w) := by kernel_rfl
theorem F63_ok {x0 x1 : Value} {w : World} {K : Value → World → Prop} (h : F63 x0 x1 w K) : Calls Tryd.prog 63 #[x0, x1] w fun e w' => ∃ v, e = .returned v ∧ K v w' := by
  rw [F63_step] at h
  exact calls_of (c := F63_code) mixed Tryd.func63 rfl (nlt rfl) (vc_sound mixed (orcNil F63_code) F63_code [] rfl F63_code_ok _ _ _ (rsh_out h))

/-! (*ropewalk/spans.Set).move -/
noncomputable def F64_code : Code := Tryd.f64.body.getD .skip
theorem F64_code_ok : okC Tryd.prog Tryd.f64.ntmps F64_code = true := by kernel_rfl
def F64 (x0 : Value) (x1 : Value) (w : World) (K : Value → World → Prop) : Prop :=
  rdP x0 fun p1 => rdI .i64 x1 fun n2 => alc (.cells #[(.pointer p1)] 77) w fun b3 w4 => alc (.cells #[(.int .i64 n2)] 3) w4 fun b5 w6 => ldP (Addr.mk b3 0 none) w6 fun p7 => nn p7 fun a8 => ldM ((a8.add 0).add 0) w6 fun m9 => ldI .i64 ((a8.add 0).add 1) w6 fun n10 => alc (.cells #[(.map none), (.int .i64 0)] 97) w6 fun b11 w12 => stc ((Addr.mk b11 0 none).add 0) (.map m9) w12 fun w13 => stc ((Addr.mk b11 0 none).add 1) (.int .i64 n10) w13 fun w14 => ldP (Addr.mk b3 0 none) w14 fun p15 => alc (.map #[] 0) w14 fun b16 w17 => nn p15 fun a18 => stc ((a18.add 0).add 0) (.map (some b16)) w17 fun w19 => stc ((a18.add 0).add 1) (.int .i64 0) w19 fun w20 => drw w20 fun w21 => ldP (Addr.mk b3 0 none) w21 fun p22 => nn p22 fun a23 => ldI .u32 (a23.add 2) w21 fun n24 => ldI .i64 (Addr.mk b5 0 none) w21 fun n25 => nn p22 fun a26 => stc (a26.add 2) (.int .u32 (IntKind.wrap .u32 (n24 + (IntKind.wrap .u32 (n25))))) w21 fun w27 => Calls Tryd.prog 71 #[(.pointer (some (Addr.mk b11 0 none))), (.func (.func 77) #[] #[(.pointer (some (Addr.mk b5 0 none))), (.pointer (some (Addr.mk b3 0 none)))])] w27 fun e29 w28 => e29 = .returned (.tuple #[]) ∧ (K (.tuple #[]) w28)
theorem F64_step (x0 : Value) (x1 : Value) (w : World) (K : Value → World → Prop) : (F64 x0 x1 w K) = rsh [(0, (.one .ptr)), (1, (.one (.int .i64)))] (args0 #[x0, x1]) (fun t => vc Tryd.prog (orcOf []) [] F64_code (retQ Tryd.prog Tryd.f64 K) t w) := by kernel_rfl
theorem F64_ok {x0 x1 : Value} {w : World} {K : Value → World → Prop} (h : F64 x0 x1 w K) : Calls Tryd.prog 64 #[x0, x1] w fun e w' => ∃ v, e = .returned v ∧ K v w' := by
  rw [F64_step] at h
  exact calls_of (c := F64_code) mixed Tryd.func64 rfl (nlt rfl) (vc_sound mixed (orcNil F64_code) F64_code [] rfl F64_code_ok _ _ _ (rsh_out h))

/-! slices.Contains[[]uint32,uint32] -/
noncomputable def F65_code : Code := Tryd.f65.body.getD .skip
theorem F65_code_ok : okC Tryd.prog Tryd.f65.ntmps F65_code = true := by kernel_rfl
def F65 (x0 : Value) (x1 : Value) (w : World) (K : Value → World → Prop) : Prop :=
  rdC x0 fun l1a l1n l1c => rdI .u32 x1 fun n2 => Calls Tryd.prog 78 #[(.slice l1a l1n l1c), (.int .u32 n2)] w fun e5 w4 => ∃ n3, e5 = .returned (.int .i64 n3) ∧ (K (.bool (decide ((n3 : Int) ≥ 0))) w4)
theorem F65_step (x0 : Value) (x1 : Value) (w : World) (K : Value → World → Prop) : (F65 x0 x1 w K) = rsh [(0, (.one .slc)), (1, (.one (.int .u32)))] (args0 #[x0, x1]) (fun t => vc Tryd.prog (orcOf []) [] F65_code (retQ Tryd.prog Tryd.f65 K) t w) := by kernel_rfl
theorem F65_ok {x0 x1 : Value} {w : World} {K : Value → World → Prop} (h : F65 x0 x1 w K) : Calls Tryd.prog 65 #[x0, x1] w fun e w' => ∃ v, e = .returned v ∧ K v w' := by
  rw [F65_step] at h
  exact calls_of (c := F65_code) mixed Tryd.func65 rfl (nlt rfl) (vc_sound mixed (orcNil F65_code) F65_code [] rfl F65_code_ok _ _ _ (rsh_out h))

/-! (*ropewalk/ropewalkref03.Set).Del -/
noncomputable def F66_code : Code := Tryd.f66.body.getD .skip
theorem F66_code_ok : okC Tryd.prog Tryd.f66.ntmps F66_code = true := by kernel_rfl
def F66_1C (K0 : Value → Value → World → Prop) : Post := fun o t w => match o with | .normal => False | .exit i => (match Nat.beq i 0 with | true => K0 (t 0) (t 6) w | false => False) | .ret => False
def F66_1B (R : Value → Value → Value → Value → World → Prop) (K0 : Value → Value → World → Prop) (x0 : Value) (x5 : Value) (x6 : Value) (x7 : Value) (w : World) : Prop :=
  rdP x0 fun p1 => rdI .i64 x5 fun n2 => rdC x6 fun l3a l3n l3c => rdI .i64 x7 fun n4 => nn p1 fun a5 => ldC (a5.add 1) w fun l6a l6n l6c => br (decide ((n4 : Int) < (l6n : Int))) (nn p1 fun a7 => ldC (a7.add 1) w fun l8a l8n l8c => ixS 1 l8a l8n n4 fun a9 => ldI .i64 a9 w fun n10 => br (n10 != n2) (nn p1 fun a11 => ldC (a11.add 1) w fun l12a l12n l12c => ixS 1 l12a l12n n4 fun a13 => ldI .i64 a13 w fun n14 => alc (.cells #[(.int .i64 n14)] 3) w fun b15 w16 => ∃ l17a l17n l17c w18, Sem.run Tryd.prog (Builtin.append_ #[30, 30] 30 #[(.slice l3a l3n l3c), (.slice (some (Addr.mk b15 0 none)) 1 1)]) w16 = .ok (.slice l17a l17n l17c) w18 ∧ (R (.pointer p1) (.int .i64 n2) (.slice l17a l17n l17c) (.int .i64 (IntKind.wrap .i64 (n4 + 1))) w18)) (R (.pointer p1) (.int .i64 n2) (.slice l3a l3n l3c) (.int .i64 (IntKind.wrap .i64 (n4 + 1))) w)) (K0 (.pointer p1) (.slice l3a l3n l3c) w)
def F66_1 (K0 : Value → Value → World → Prop) : Nat → Value → Value → Value → Value → World → Prop
  | 0 => fun _ _ _ _ _ => False
  | n + 1 => F66_1B (F66_1 K0 n) K0
def F66_1O (Q : Post) (t : Tm) (w : World) : Prop := ∃ n, F66_1 (fun y0 y6 w => ∀ g, rsh [(0, (.one .ptr)), (6, (.one .slc))] (upds g [(0, y0), (6, y6)]) fun t => Q (.exit 0) t w) n (t 0) (t 5) (t 6) (t 7) w
theorem F66_1_step (K0 : Value → Value → World → Prop) (n : Nat) (t : Tm) (w : World) : (F66_1 K0 (n + 1) (t 0) (t 5) (t 6) (t 7) w) = rsh [(0, (.one .ptr)), (5, (.one (.int .i64))), (6, (.one .slc)), (7, (.one (.int .i64)))] t (fun t => vc Tryd.prog (orcOf []) [0, 0, 1, 0, 1, 1, 1] (getAt F66_code [0, 0, 1, 0, 1, 1, 1]) (fun o t w => match o with | .normal => F66_1 K0 n (t 0) (t 5) (t 6) (t 7) w | .exit i => F66_1C K0 (.exit i) t w | .ret => F66_1C K0 .ret t w) t w) := by kernel_rfl
theorem F66_1_ok : ∀ Q t w, F66_1O Q t w → W Tryd.prog Tryd.f66.ntmps (getAt F66_code [0, 1, 0, 1, 1, 1]) Q t w := by
  intro Q t w ⟨n, h⟩
  refine (W_loop (P := Tryd.prog) (b := getAt F66_code [0, 0, 1, 0, 1, 1, 1]) (Q := F66_1C (fun y0 y6 w => ∀ g, rsh [(0, (.one .ptr)), (6, (.one .slc))] (upds g [(0, y0), (6, y6)]) fun t => Q (.exit 0) t w)) (G := fun n t w => F66_1 (fun y0 y6 w => ∀ g, rsh [(0, (.one .ptr)), (6, (.one .slc))] (upds g [(0, y0), (6, y6)]) fun t => Q (.exit 0) t w) n (t 0) (t 5) (t 6) (t 7) w) (fun _ _ h => h) (fun n t w h => ?_) n t w h).mono ?_
  · rw [F66_1_step] at h
    exact vc_sound mixed (orcNil F66_code) _ _ rfl (okC_at F66_code_ok [0, 0, 1, 0, 1, 1, 1]) _ _ _ (rsh_out h)
  · intro o t w q
    cases o with
    | normal => exact q.elim
    | exit i =>
      unfold F66_1C at q
      simp only at q
      split at q
      · rename_i hi
        rw [nbeq] at hi
        subst hi
        exact out_ok [0, 6] q
      · exact q.elim
    | ret => exact q.elim
def F66 (x0 : Value) (x1 : Value) (w : World) (K : Value → World → Prop) : Prop :=
  rdP x0 fun p1 => rdI .u32 x1 fun n2 => nn p1 fun a3 => ldI .u32 (a3.add 0) w fun n4 => Calls Tryd.prog 18 #[(.int .u32 n4), (.int .u32 n2)] w fun e7 w6 => ∃ n5, e7 = .returned (.int .i64 n5) ∧ (∃ k17 : Nat, F66_1 (fun y0_7 y6_7 w9 => ∀ _g10 : Tm, rdP y0_7 fun p11 => rdC y6_7 fun l12a l12n l12c => nn p11 fun a13 => ldC (a13.add 1) w9 fun l14a l14n l14c => nn p11 fun a15 => stc (a15.add 1) (.slice l12a l12n l12c) w9 fun w16 => K (.bool (decide (((l12n : Int) : Int) < (l14n : Int)))) w16) k17 (.pointer p1) (.int .i64 n5) (.slice none 0 0) (.int .i64 0) w6)
theorem F66_step (x0 : Value) (x1 : Value) (w : World) (K : Value → World → Prop) : (F66 x0 x1 w K) = rsh [(0, (.one .ptr)), (1, (.one (.int .u32)))] (args0 #[x0, x1]) (fun t => vc Tryd.prog (orcOf [([0, 1, 0, 1, 1, 1], F66_1O)]) [] F66_code (retQ Tryd.prog Tryd.f66 K) t w) := by kernel_rfl
theorem F66_ok {x0 x1 : Value} {w : World} {K : Value → World → Prop} (h : F66 x0 x1 w K) : Calls Tryd.prog 66 #[x0, x1] w fun e w' => ∃ v, e = .returned v ∧ K v w' := by
  rw [F66_step] at h
  exact calls_of (c := F66_code) mixed Tryd.func66 rfl (nlt rfl) (vc_sound mixed (orcCons (π := [0, 1, 0, 1, 1, 1]) F66_1_ok (orcNil F66_code)) F66_code [] rfl F66_code_ok _ _ _ (rsh_out h))

/-! (*ropewalk/ropewalkref19.Box).blocks -/
noncomputable def F67_code : Code := Tryd.f67.body.getD .skip
theorem F67_code_ok : okC Tryd.prog Tryd.f67.ntmps F67_code = true := by kernel_rfl
def F67_1C (Kn : Value → Value → Value → Value → Value → Value → Value → World → Prop) : Post := fun o t w => match o with | .normal => Kn (t 0) (t 1) (t 2) (t 3) (t 9) (t 10) (t 11) w | .exit i => (False) | .ret => False
def F67_1 (Kn : Value → Value → Value → Value → Value → Value → Value → World → Prop) (x0 : Value) (x1 : Value) (x2 : Value) (x3 : Value) (x9 : Value) (x10 : Value) (x11 : Value) (x42 : Value) (w : World) : Prop :=
  rdP x0 fun p1 => rdB x1 fun b2 => rdB x2 fun b3 => rdI .i64 x3 fun n4 => rdP x9 fun p5 => rdC x10 fun l6a l6n l6c => rdI .i64 x11 fun n7 => rdB x42 fun b8 => br b8 (drw w fun w9 => nn p5 fun a10 => ldC (a10.add 1) w9 fun l11a l11n l11c => nn p1 fun a12 => ldP (a12.add 0) w9 fun p13 => nn p13 fun a14 => ldC (a14.add 1) w9 fun l15a l15n l15c => ixS 1 l15a l15n n7 fun a16 => ldI .i64 a16 w9 fun n17 => alc (.cells #[(.int .i64 n17)] 3) w9 fun b18 w19 => Pres w9 w19 ∧ (∃ l20a l20n l20c w21, Sem.run Tryd.prog (Builtin.append_ #[30, 30] 30 #[(.slice l11a l11n l11c), (.slice (some (Addr.mk b18 0 none)) 1 1)]) w19 = .ok (.slice l20a l20n l20c) w21 ∧ (nn p5 fun a22 => stc (a22.add 1) (.slice l20a l20n l20c) w21 fun w23 => Kn (.pointer p1) (.bool b2) (.bool b3) (.int .i64 n4) (.pointer p5) (.slice l6a l6n l6c) (.int .i64 n7) w23))) (Kn (.pointer p1) (.bool b2) (.bool b3) (.int .i64 n4) (.pointer p5) (.slice l6a l6n l6c) (.int .i64 n7) w)
def F67_1O (Q : Post) (t : Tm) (w : World) : Prop := F67_1 (fun y0 y1 y2 y3 y9 y10 y11 w => ∀ g, rsh [(0, (.one .ptr)), (1, (.one .bool)), (2, (.one .bool)), (3, (.one (.int .i64))), (9, (.one .ptr)), (10, (.one .slc)), (11, (.one (.int .i64)))] (upds g [(0, y0), (1, y1), (2, y2), (3, y3), (9, y9), (10, y10), (11, y11)]) fun t => Q .normal t w) (t 0) (t 1) (t 2) (t 3) (t 9) (t 10) (t 11) (t 42) w
theorem F67_1_step (Kn : Value → Value → Value → Value → Value → Value → Value → World → Prop) (t : Tm) (w : World) : (F67_1 Kn (t 0) (t 1) (t 2) (t 3) (t 9) (t 10) (t 11) (t 42) w) = rsh [(0, (.one .ptr)), (1, (.one .bool)), (2, (.one .bool)), (3, (.one (.int .i64))), (9, (.one .ptr)), (10, (.one .slc)), (11, (.one (.int .i64))), (42, (.one .bool))] t (fun t => vc Tryd.prog (orcOf []) [1, 0, 0, 1, 0, 0, 1, 0, 1, 1, 1] (getAt F67_code [1, 0, 0, 1, 0, 0, 1, 0, 1, 1, 1]) (F67_1C Kn) t w) := by kernel_rfl
theorem F67_1_ok : ∀ Q t w, F67_1O Q t w → W Tryd.prog Tryd.f67.ntmps (getAt F67_code [1, 0, 0, 1, 0, 0, 1, 0, 1, 1, 1]) Q t w := by
  intro Q t w h
  unfold F67_1O at h
  rw [F67_1_step] at h
  refine (vc_sound mixed (orcNil F67_code) _ _ rfl (okC_at F67_code_ok [1, 0, 0, 1, 0, 0, 1, 0, 1, 1, 1]) _ _ _ (rsh_out h)).mono ?_
  intro o t w q
  cases o with
  | normal => exact out_ok [0, 1, 2, 3, 9, 10, 11] q
  | exit i => exact q.elim
  | ret => exact q.elim
def F67_2C (K0 : Value → Value → World → Prop) : Post := fun o t w => match o with | .normal => False | .exit i => (match Nat.beq i 0 with | true => K0 (t 3) (t 9) w | false => False) | .ret => False
def F67_2B (R : Value → Value → Value → Value → Value → Value → Value → World → Prop) (K0 : Value → Value → World → Prop) (x0 : Value) (x1 : Value) (x2 : Value) (x3 : Value) (x9 : Value) (x10 : Value) (x11 : Value) (w : World) : Prop :=
  rdP x0 fun p1 => rdB x1 fun b2 => rdB x2 fun b3 => rdI .i64 x3 fun n4 => rdP x9 fun p5 => rdC x10 fun l6a l6n l6c => rdI .i64 x11 fun n7 => br (decide ((n7 : Int) < (l6n : Int))) (br b3 (F67_1 (fun y0_7 y1_7 y2_7 y3_7 y9_7 y10_7 y11_7 w9 => ∀ _g10 : Tm, rdP y0_7 fun p11 => rdB y1_7 fun b12 => rdB y2_7 fun b13 => rdI .i64 y3_7 fun n14 => rdP y9_7 fun p15 => rdC y10_7 fun l16a l16n l16c => rdI .i64 y11_7 fun n17 => R (.pointer p11) (.bool b12) (.bool b13) (.int .i64 n14) (.pointer p15) (.slice l16a l16n l16c) (.int .i64 (IntKind.wrap .i64 (n17 + 1))) w9) (.pointer p1) (.bool b2) (.bool b3) (.int .i64 n4) (.pointer p5) (.slice l6a l6n l6c) (.int .i64 n7) (.bool true) w) (ixS 1 l6a l6n n7 fun a18 => ldI .u32 a18 w fun n19 => Calls Tryd.prog 42 #[(.pointer p1), (.int .u32 n19)] w fun e22 w21 => ∃ b20, e22 = .returned (.bool b20) ∧ (F67_1 (fun y0_22 y1_22 y2_22 y3_22 y9_22 y10_22 y11_22 w24 => ∀ _g25 : Tm, rdP y0_22 fun p26 => rdB y1_22 fun b27 => rdB y2_22 fun b28 => rdI .i64 y3_22 fun n29 => rdP y9_22 fun p30 => rdC y10_22 fun l31a l31n l31c => rdI .i64 y11_22 fun n32 => R (.pointer p26) (.bool b27) (.bool b28) (.int .i64 n29) (.pointer p30) (.slice l31a l31n l31c) (.int .i64 (IntKind.wrap .i64 (n32 + 1))) w24) (.pointer p1) (.bool b2) (.bool b3) (.int .i64 n4) (.pointer p5) (.slice l6a l6n l6c) (.int .i64 n7) (.bool (b20 == b2)) w21))) (K0 (.int .i64 n4) (.pointer p5) w)
def F67_2 (K0 : Value → Value → World → Prop) : Nat → Value → Value → Value → Value → Value → Value → Value → World → Prop
  | 0 => fun _ _ _ _ _ _ _ _ => False
  | n + 1 => F67_2B (F67_2 K0 n) K0
def F67_2O (Q : Post) (t : Tm) (w : World) : Prop := ∃ n, F67_2 (fun y3 y9 w => ∀ g, rsh [(3, (.one (.int .i64))), (9, (.one .ptr))] (upds g [(3, y3), (9, y9)]) fun t => Q (.exit 0) t w) n (t 0) (t 1) (t 2) (t 3) (t 9) (t 10) (t 11) w
theorem F67_2_step (K0 : Value → Value → World → Prop) (n : Nat) (t : Tm) (w : World) : (F67_2 K0 (n + 1) (t 0) (t 1) (t 2) (t 3) (t 9) (t 10) (t 11) w) = rsh [(0, (.one .ptr)), (1, (.one .bool)), (2, (.one .bool)), (3, (.one (.int .i64))), (9, (.one .ptr)), (10, (.one .slc)), (11, (.one (.int .i64)))] t (fun t => vc Tryd.prog (orcOf [([1, 0, 0, 1, 0, 0, 1, 0, 1, 1, 1], F67_1O)]) [0, 0, 1, 0, 1, 1, 1] (getAt F67_code [0, 0, 1, 0, 1, 1, 1]) (fun o t w => match o with | .normal => F67_2 K0 n (t 0) (t 1) (t 2) (t 3) (t 9) (t 10) (t 11) w | .exit i => F67_2C K0 (.exit i) t w | .ret => F67_2C K0 .ret t w) t w) := by kernel_rfl
theorem F67_2_ok : ∀ Q t w, F67_2O Q t w → W Tryd.prog Tryd.f67.ntmps (getAt F67_code [0, 1, 0, 1, 1, 1]) Q t w := by
  intro Q t w ⟨n, h⟩
  refine (W_loop (P := Tryd.prog) (b := getAt F67_code [0, 0, 1, 0, 1, 1, 1]) (Q := F67_2C (fun y3 y9 w => ∀ g, rsh [(3, (.one (.int .i64))), (9, (.one .ptr))] (upds g [(3, y3), (9, y9)]) fun t => Q (.exit 0) t w)) (G := fun n t w => F67_2 (fun y3 y9 w => ∀ g, rsh [(3, (.one (.int .i64))), (9, (.one .ptr))] (upds g [(3, y3), (9, y9)]) fun t => Q (.exit 0) t w) n (t 0) (t 1) (t 2) (t 3) (t 9) (t 10) (t 11) w) (fun _ _ h => h) (fun n t w h => ?_) n t w h).mono ?_
  · rw [F67_2_step] at h
    exact vc_sound mixed (orcCons (π := [1, 0, 0, 1, 0, 0, 1, 0, 1, 1, 1]) F67_1_ok (orcNil F67_code)) _ _ rfl (okC_at F67_code_ok [0, 0, 1, 0, 1, 1, 1]) _ _ _ (rsh_out h)
  · intro o t w q
    cases o with
    | normal => exact q.elim
    | exit i =>
      unfold F67_2C at q
      simp only at q
      split at q
      · rename_i hi
        rw [nbeq] at hi
        subst hi
        exact out_ok [3, 9] q
      · exact q.elim
    | ret => exact q.elim
def F67 (x0 : Value) (x1 : Value) (x2 : Value) (x3 : Value) (w : World) (K : Value → World → Prop) : Prop :=
  rdP x0 fun p1 => rdB x1 fun b2 => rdB x2 fun b3 => rdI .i64 x3 fun n4 => nn p1 fun a5 => ldP (a5.add 0) w fun p6 => nn p6 fun a7 => ldI .u32 (a7.add 0) w fun n8 => alc (.cells #[(.int .u32 n8), (.slice none 0 0)] 32) w fun b9 w10 => nn p1 fun a11 => ldP (a11.add 0) w10 fun p12 => Calls Tryd.prog 26 #[(.pointer p12)] w10 fun e15 w14 => ∃ l13a l13n l13c, e15 = .returned (.slice l13a l13n l13c) ∧ (∃ k24 : Nat, F67_2 (fun y3_15 y9_15 w17 => ∀ _g18 : Tm, rdI .i64 y3_15 fun n19 => rdP y9_15 fun p20 => Calls Tryd.prog 79 #[(.pointer p20), (.int .i64 n19)] w17 fun e23 w22 => ∃ l21a l21n l21c, e23 = .returned (.slice l21a l21n l21c) ∧ (K (.slice l21a l21n l21c) w22)) k24 (.pointer p1) (.bool b2) (.bool b3) (.int .i64 n4) (.pointer (some (Addr.mk b9 0 none))) (.slice l13a l13n l13c) (.int .i64 0) w14)
theorem F67_step (x0 : Value) (x1 : Value) (x2 : Value) (x3 : Value) (w : World) (K : Value → World → Prop) : (F67 x0 x1 x2 x3 w K) = rsh [(0, (.one .ptr)), (1, (.one .bool)), (2, (.one .bool)), (3, (.one (.int .i64)))] (args0 #[x0, x1, x2, x3]) (fun t => vc Tryd.prog (orcOf [([1, 0, 0, 1, 0, 0, 1, 0, 1, 1, 1], F67_1O), ([0, 1, 0, 1, 1, 1], F67_2O)]) [] F67_code (retQ Tryd.prog Tryd.f67 K) t w) := by kernel_rfl
theorem F67_ok {x0 x1 x2 x3 : Value} {w : World} {K : Value → World → Prop} (h : F67 x0 x1 x2 x3 w K) : Calls Tryd.prog 67 #[x0, x1, x2, x3] w fun e w' => ∃ v, e = .returned v ∧ K v w' := by
  rw [F67_step] at h
  exact calls_of (c := F67_code) mixed Tryd.func67 rfl (nlt rfl) (vc_sound mixed (orcCons (π := [1, 0, 0, 1, 0, 0, 1, 0, 1, 1, 1]) F67_1_ok (orcCons (π := [0, 1, 0, 1, 1, 1]) F67_2_ok (orcNil F67_code))) F67_code [] rfl F67_code_ok _ _ _ (rsh_out h))

/-! ropewalk/ropewalkref03.Blocks -/
noncomputable def F68_code : Code := Tryd.f68.body.getD .skip
theorem F68_code_ok : okC Tryd.prog Tryd.f68.ntmps F68_code = true := by kernel_rfl
def F68_1C (K0 : World → Prop) (Kr : Value → World → Prop) : Post := fun o t w => match o with | .normal => False | .exit i => (match Nat.beq i 0 with | true => K0  w | false => False) | .ret => Kr (t 4) w
def F68_1B (R : Value → Value → Value → World → Prop) (K0 : World → Prop) (Kr : Value → World → Prop) (x0 : Value) (x1 : Value) (x5 : Value) (w : World) : Prop :=
  rdC x0 fun l1a l1n l1c => rdC x1 fun l2a l2n l2c => rdI .i64 x5 fun n3 => br (decide ((n3 : Int) < (l1n : Int))) (drw w fun w4 => ixS 2 l1a l1n n3 fun a5 => ldI .u16 (a5.add 0) w4 fun n6 => ldI .u16 (a5.add 1) w4 fun n7 => ixS 2 l2a l2n n3 fun a8 => ldI .u16 (a8.add 0) w4 fun n9 => ldI .u16 (a8.add 1) w4 fun n10 => ∃ b11 w12, Sem.run Tryd.prog (binF Tryd.prog .neq 60 (.tmp 20) (.tmp 24) (.agg #[(.int .u16 n6), (.int .u16 n7)]) (.agg #[(.int .u16 n9), (.int .u16 n10)])) w4 = .ok (.bool b11) w12 ∧ (br b11 (Kr (.bool false) w12) (R (.slice l1a l1n l1c) (.slice l2a l2n l2c) (.int .i64 (IntKind.wrap .i64 (n3 + 1))) w12))) (K0 w)
def F68_1 (K0 : World → Prop) (Kr : Value → World → Prop) : Nat → Value → Value → Value → World → Prop
  | 0 => fun _ _ _ _ => False
  | n + 1 => F68_1B (F68_1 K0 Kr n) K0 Kr
def F68_1O (Q : Post) (t : Tm) (w : World) : Prop := ∃ n, F68_1 (fun w => ∀ g, rsh [] (upds g []) fun t => Q (.exit 0) t w) (fun y4 w => ∀ g, rsh [(4, (.one .bool))] (upds g [(4, y4)]) fun t => Q .ret t w) n (t 0) (t 1) (t 5) w
theorem F68_1_step (K0 : World → Prop) (Kr : Value → World → Prop) (n : Nat) (t : Tm) (w : World) : (F68_1 K0 Kr (n + 1) (t 0) (t 1) (t 5) w) = rsh [(0, (.one .slc)), (1, (.one .slc)), (5, (.one (.int .i64)))] t (fun t => vc Tryd.prog (orcOf []) [0, 0, 1, 0, 1, 1] (getAt F68_code [0, 0, 1, 0, 1, 1]) (fun o t w => match o with | .normal => F68_1 K0 Kr n (t 0) (t 1) (t 5) w | .exit i => F68_1C K0 Kr (.exit i) t w | .ret => F68_1C K0 Kr .ret t w) t w) := by kernel_rfl
theorem F68_1_ok : ∀ Q t w, F68_1O Q t w → W Tryd.prog Tryd.f68.ntmps (getAt F68_code [0, 1, 0, 1, 1]) Q t w := by
  intro Q t w ⟨n, h⟩
  refine (W_loop (P := Tryd.prog) (b := getAt F68_code [0, 0, 1, 0, 1, 1]) (Q := F68_1C (fun w => ∀ g, rsh [] (upds g []) fun t => Q (.exit 0) t w) (fun y4 w => ∀ g, rsh [(4, (.one .bool))] (upds g [(4, y4)]) fun t => Q .ret t w)) (G := fun n t w => F68_1 (fun w => ∀ g, rsh [] (upds g []) fun t => Q (.exit 0) t w) (fun y4 w => ∀ g, rsh [(4, (.one .bool))] (upds g [(4, y4)]) fun t => Q .ret t w) n (t 0) (t 1) (t 5) w) (fun _ _ h => h) (fun n t w h => ?_) n t w h).mono ?_
  · rw [F68_1_step] at h
    exact vc_sound mixed (orcNil F68_code) _ _ rfl (okC_at F68_code_ok [0, 0, 1, 0, 1, 1]) _ _ _ (rsh_out h)
  · intro o t w q
    cases o with
    | normal => exact q.elim
    | exit i =>
      unfold F68_1C at q
      simp only at q
      split at q
      · rename_i hi
        rw [nbeq] at hi
        subst hi
        exact out_ok [] q
      · exact q.elim
    | ret => exact out_ok [4] q
def F68 (x0 : Value) (x1 : Value) (w : World) (K : Value → World → Prop) : Prop :=
  rdC x0 fun l1a l1n l1c => rdC x1 fun l2a l2n l2c => br ((l1n : Int) != (l2n : Int)) (K (.bool false) w) (∃ k10 : Nat, F68_1 (fun w4 => ∀ _g5 : Tm, K (.bool true) w4) (fun y4_5 w7 => ∀ _g8 : Tm, rdB y4_5 fun b9 => K (.bool b9) w7) k10 (.slice l1a l1n l1c) (.slice l2a l2n l2c) (.int .i64 0) w)
theorem F68_step (x0 : Value) (x1 : Value) (w : World) (K : Value → World → Prop) : (F68 x0 x1 w K) = rsh [(0, (.one .slc)), (1, (.one .slc))] (args0 #[x0, x1]) (fun t => vc Tryd.prog (orcOf [([0, 1, 0, 1, 1], F68_1O)]) [] F68_code (retQ Tryd.prog Tryd.f68 K) t w) := by kernel_rfl
theorem F68_ok {x0 x1 : Value} {w : World} {K : Value → World → Prop} (h : F68 x0 x1 w K) : Calls Tryd.prog 68 #[x0, x1] w fun e w' => ∃ v, e = .returned v ∧ K v w' := by
  rw [F68_step] at h
  exact calls_of (c := F68_code) mixed Tryd.func68 rfl (nlt rfl) (vc_sound mixed (orcCons (π := [0, 1, 0, 1, 1]) F68_1_ok (orcNil F68_code)) F68_code [] rfl F68_code_ok _ _ _ (rsh_out h))

/-! (*ropewalk/ropewalkref03.Set).has -/
noncomputable def F69_code : Code := Tryd.f69.body.getD .skip
theorem F69_code_ok : okC Tryd.prog Tryd.f69.ntmps F69_code = true := by kernel_rfl
def F69_1C (K0 : World → Prop) (Kr : Value → World → Prop) : Post := fun o t w => match o with | .normal => False | .exit i => (match Nat.beq i 0 with | true => K0  w | false => False) | .ret => Kr (t 4) w
def F69_1B (R : Value → Value → Value → World → Prop) (K0 : World → Prop) (Kr : Value → World → Prop) (x0 : Value) (x1 : Value) (x5 : Value) (w : World) : Prop :=
  rdP x0 fun p1 => rdI .i64 x1 fun n2 => rdI .i64 x5 fun n3 => nn p1 fun a4 => ldC (a4.add 1) w fun l5a l5n l5c => br (decide ((n3 : Int) < (l5n : Int))) (nn p1 fun a6 => ldC (a6.add 1) w fun l7a l7n l7c => ixS 1 l7a l7n n3 fun a8 => ldI .i64 a8 w fun n9 => br (n9 == n2) (Kr (.bool true) w) (R (.pointer p1) (.int .i64 n2) (.int .i64 (IntKind.wrap .i64 (n3 + 1))) w)) (K0 w)
def F69_1 (K0 : World → Prop) (Kr : Value → World → Prop) : Nat → Value → Value → Value → World → Prop
  | 0 => fun _ _ _ _ => False
  | n + 1 => F69_1B (F69_1 K0 Kr n) K0 Kr
def F69_1O (Q : Post) (t : Tm) (w : World) : Prop := ∃ n, F69_1 (fun w => ∀ g, rsh [] (upds g []) fun t => Q (.exit 0) t w) (fun y4 w => ∀ g, rsh [(4, (.one .bool))] (upds g [(4, y4)]) fun t => Q .ret t w) n (t 0) (t 1) (t 5) w
theorem F69_1_step (K0 : World → Prop) (Kr : Value → World → Prop) (n : Nat) (t : Tm) (w : World) : (F69_1 K0 Kr (n + 1) (t 0) (t 1) (t 5) w) = rsh [(0, (.one .ptr)), (1, (.one (.int .i64))), (5, (.one (.int .i64)))] t (fun t => vc Tryd.prog (orcOf []) [0, 0, 1, 0, 1] (getAt F69_code [0, 0, 1, 0, 1]) (fun o t w => match o with | .normal => F69_1 K0 Kr n (t 0) (t 1) (t 5) w | .exit i => F69_1C K0 Kr (.exit i) t w | .ret => F69_1C K0 Kr .ret t w) t w) := by kernel_rfl
theorem F69_1_ok : ∀ Q t w, F69_1O Q t w → W Tryd.prog Tryd.f69.ntmps (getAt F69_code [0, 1, 0, 1]) Q t w := by
  intro Q t w ⟨n, h⟩
  refine (W_loop (P := Tryd.prog) (b := getAt F69_code [0, 0, 1, 0, 1]) (Q := F69_1C (fun w => ∀ g, rsh [] (upds g []) fun t => Q (.exit 0) t w) (fun y4 w => ∀ g, rsh [(4, (.one .bool))] (upds g [(4, y4)]) fun t => Q .ret t w)) (G := fun n t w => F69_1 (fun w => ∀ g, rsh [] (upds g []) fun t => Q (.exit 0) t w) (fun y4 w => ∀ g, rsh [(4, (.one .bool))] (upds g [(4, y4)]) fun t => Q .ret t w) n (t 0) (t 1) (t 5) w) (fun _ _ h => h) (fun n t w h => ?_) n t w h).mono ?_
  · rw [F69_1_step] at h
    exact vc_sound mixed (orcNil F69_code) _ _ rfl (okC_at F69_code_ok [0, 0, 1, 0, 1]) _ _ _ (rsh_out h)
  · intro o t w q
    cases o with
    | normal => exact q.elim
    | exit i =>
      unfold F69_1C at q
      simp only at q
      split at q
      · rename_i hi
        rw [nbeq] at hi
        subst hi
        exact out_ok [] q
      · exact q.elim
    | ret => exact out_ok [4] q
def F69 (x0 : Value) (x1 : Value) (w : World) (K : Value → World → Prop) : Prop :=
  rdP x0 fun p1 => rdI .i64 x1 fun n2 => ∃ k10 : Nat, F69_1 (fun w4 => ∀ _g5 : Tm, K (.bool false) w4) (fun y4_5 w7 => ∀ _g8 : Tm, rdB y4_5 fun b9 => K (.bool b9) w7) k10 (.pointer p1) (.int .i64 n2) (.int .i64 0) w
theorem F69_step (x0 : Value) (x1 : Value) (w : World) (K : Value → World → Prop) : (F69 x0 x1 w K) = rsh [(0, (.one .ptr)), (1, (.one (.int .i64)))] (args0 #[x0, x1]) (fun t => vc Tryd.prog (orcOf [([0, 1, 0, 1], F69_1O)]) [] F69_code (retQ Tryd.prog Tryd.f69 K) t w) := by kernel_rfl
theorem F69_ok {x0 x1 : Value} {w : World} {K : Value → World → Prop} (h : F69 x0 x1 w K) : Calls Tryd.prog 69 #[x0, x1] w fun e w' => ∃ v, e = .returned v ∧ K v w' := by
  rw [F69_step] at h
  exact calls_of (c := F69_code) mixed Tryd.func69 rfl (nlt rfl) (vc_sound mixed (orcCons (π := [0, 1, 0, 1]) F69_1_ok (orcNil F69_code)) F69_code [] rfl F69_code_ok _ _ _ (rsh_out h))

/-! (*ropewalk/spans.Set).above -/
noncomputable def F70_code : Code := Tryd.f70.body.getD .skip
theorem F70_code_ok : okC Tryd.prog Tryd.f70.ntmps F70_code = true := by kernel_rfl
def F70 (x0 : Value) (x1 : Value) (w : World) (K : Value → World → Prop) : Prop :=
  rdP x0 fun p1 => rdI .u32 x1 fun n2 => nn p1 fun a3 => ldI .u32 (a3.add 2) w fun n4 => Calls Tryd.prog 61 #[(.int .u32 n4), (.int .u32 n2)] w fun e7 w6 => ∃ n5, e7 = .returned (.int .i64 n5) ∧ (br (decide ((n5 : Int) < 2)) (K (.int .i64 0) w6) (br (decide ((n5 : Int) > 65535)) (K (.int .i64 0) w6) (K (.int .i64 n5) w6)))
theorem F70_step (x0 : Value) (x1 : Value) (w : World) (K : Value → World → Prop) : (F70 x0 x1 w K) = rsh [(0, (.one .ptr)), (1, (.one (.int .u32)))] (args0 #[x0, x1]) (fun t => vc Tryd.prog (orcOf []) [] F70_code (retQ Tryd.prog Tryd.f70 K) t w) := by kernel_rfl
theorem F70_ok {x0 x1 : Value} {w : World} {K : Value → World → Prop} (h : F70 x0 x1 w K) : Calls Tryd.prog 70 #[x0, x1] w fun e w' => ∃ v, e = .returned v ∧ K v w' := by
  rw [F70_step] at h
  exact calls_of (c := F70_code) mixed Tryd.func70 rfl (nlt rfl) (vc_sound mixed (orcNil F70_code) F70_code [] rfl F70_code_ok _ _ _ (rsh_out h))

/-! (*ropewalk/spans.field).each -/
noncomputable def F71_code : Code := Tryd.f71.body.getD .skip
theorem F71_code_ok : okC Tryd.prog Tryd.f71.ntmps F71_code = true := by kernel_rfl
def F71_1C (K2 : Value → Value → Value → Value → World → Prop) : Post := fun o t w => match o with | .normal => False | .exit i => (match Nat.beq i 2 with | true => K2 (t 0) (t 1) (t 4) (t 5) w | false => False) | .ret => False
def F71_1B (R : Value → Value → Value → Value → Value → World → Prop) (K2 : Value → Value → Value → Value → World → Prop) (x0 : Value) (x1 : Value) (x4 : Value) (x5 : Value) (x6 : Value) (w : World) : Prop :=
  rdP x0 fun p1 => rdI .i64 x4 fun n2 => rdI .i64 x5 fun n3 => rdI .u64 x6 fun n4 => br (n4 != 0) (Calls Tryd.prog 80 #[(.int .u64 n4)] w fun e7 w6 => ∃ n5, e7 = .returned (.int .i64 n5) ∧ (callV Tryd.prog x1 #[(.int .i64 (IntKind.wrap .i64 ((IntKind.wrap .i64 (64 * n3)) + n5)))] w6 (.tup []) fun r9 w8 => r9 = (.tuple #[]) ∧ (R (.pointer p1) x1 (.int .i64 (IntKind.wrap .i64 (n2 - 1))) (.int .i64 n3) (.int .u64 (bitI .and .u64 n4 (IntKind.wrap .u64 (n4 - 1)))) w8))) (K2 (.pointer p1) x1 (.int .i64 n2) (.int .i64 n3) w)
def F71_1 (K2 : Value → Value → Value → Value → World → Prop) : Nat → Value → Value → Value → Value → Value → World → Prop
  | 0 => fun _ _ _ _ _ _ => False
  | n + 1 => F71_1B (F71_1 K2 n) K2
def F71_1O (Q : Post) (t : Tm) (w : World) : Prop := ∃ n, F71_1 (fun y0 y1 y4 y5 w => ∀ g, rsh [(0, (.one .ptr)), (4, (.one (.int .i64))), (5, (.one (.int .i64)))] (upds g [(0, y0), (1, y1), (4, y4), (5, y5)]) fun t => Q (.exit 2) t w) n (t 0) (t 1) (t 4) (t 5) (t 6) w
theorem F71_1_step (K2 : Value → Value → Value → Value → World → Prop) (n : Nat) (t : Tm) (w : World) : (F71_1 K2 (n + 1) (t 0) (t 1) (t 4) (t 5) (t 6) w) = rsh [(0, (.one .ptr)), (4, (.one (.int .i64))), (5, (.one (.int .i64))), (6, (.one (.int .u64)))] t (fun t => vc Tryd.prog (orcOf []) [0, 0, 1, 0, 0, 1, 0, 0, 1, 1] (getAt F71_code [0, 0, 1, 0, 0, 1, 0, 0, 1, 1]) (fun o t w => match o with | .normal => F71_1 K2 n (t 0) (t 1) (t 4) (t 5) (t 6) w | .exit i => F71_1C K2 (.exit i) t w | .ret => F71_1C K2 .ret t w) t w) := by kernel_rfl
theorem F71_1_ok : ∀ Q t w, F71_1O Q t w → W Tryd.prog Tryd.f71.ntmps (getAt F71_code [0, 1, 0, 0, 1, 0, 0, 1, 1]) Q t w := by
  intro Q t w ⟨n, h⟩
  refine (W_loop (P := Tryd.prog) (b := getAt F71_code [0, 0, 1, 0, 0, 1, 0, 0, 1, 1]) (Q := F71_1C (fun y0 y1 y4 y5 w => ∀ g, rsh [(0, (.one .ptr)), (4, (.one (.int .i64))), (5, (.one (.int .i64)))] (upds g [(0, y0), (1, y1), (4, y4), (5, y5)]) fun t => Q (.exit 2) t w)) (G := fun n t w => F71_1 (fun y0 y1 y4 y5 w => ∀ g, rsh [(0, (.one .ptr)), (4, (.one (.int .i64))), (5, (.one (.int .i64)))] (upds g [(0, y0), (1, y1), (4, y4), (5, y5)]) fun t => Q (.exit 2) t w) n (t 0) (t 1) (t 4) (t 5) (t 6) w) (fun _ _ h => h) (fun n t w h => ?_) n t w h).mono ?_
  · rw [F71_1_step] at h
    exact vc_sound mixed (orcNil F71_code) _ _ rfl (okC_at F71_code_ok [0, 0, 1, 0, 0, 1, 0, 0, 1, 1]) _ _ _ (rsh_out h)
  · intro o t w q
    cases o with
    | normal => exact q.elim
    | exit i =>
      unfold F71_1C at q
      simp only at q
      split at q
      · rename_i hi
        rw [nbeq] at hi
        subst hi
        exact out_ok [0, 1, 4, 5] q
      · exact q.elim
    | ret => exact q.elim
def F71_2C (K0 : World → Prop) : Post := fun o t w => match o with | .normal => False | .exit i => (match Nat.beq i 0 with | true => K0  w | false => False) | .ret => False
def F71_2B (R : Value → Value → Value → Value → World → Prop) (K0 : World → Prop) (x0 : Value) (x1 : Value) (x4 : Value) (x5 : Value) (w : World) : Prop :=
  rdP x0 fun p1 => rdI .i64 x4 fun n2 => rdI .i64 x5 fun n3 => br (decide ((n2 : Int) > 0)) (nn p1 fun a4 => ldM (a4.add 0) w fun m5 => ∃ n6, lookF Tryd.prog 3 83 (.map m5) (.int .i64 n3) false w = some (.int .u64 n6) ∧ (∃ k13 : Nat, F71_1 (fun y0_6 y1_6 y4_6 y5_6 w8 => ∀ _g9 : Tm, rdP y0_6 fun p10 => rdI .i64 y4_6 fun n11 => rdI .i64 y5_6 fun n12 => R (.pointer p10) y1_6 (.int .i64 n11) (.int .i64 (IntKind.wrap .i64 (n12 + 1))) w8) k13 (.pointer p1) x1 (.int .i64 n2) (.int .i64 n3) (.int .u64 n6) w)) (K0 w)
def F71_2 (K0 : World → Prop) : Nat → Value → Value → Value → Value → World → Prop
  | 0 => fun _ _ _ _ _ => False
  | n + 1 => F71_2B (F71_2 K0 n) K0
def F71_2O (Q : Post) (t : Tm) (w : World) : Prop := ∃ n, F71_2 (fun w => ∀ g, rsh [] (upds g []) fun t => Q (.exit 0) t w) n (t 0) (t 1) (t 4) (t 5) w
theorem F71_2_step (K0 : World → Prop) (n : Nat) (t : Tm) (w : World) : (F71_2 K0 (n + 1) (t 0) (t 1) (t 4) (t 5) w) = rsh [(0, (.one .ptr)), (4, (.one (.int .i64))), (5, (.one (.int .i64)))] t (fun t => vc Tryd.prog (orcOf [([0, 1, 0, 0, 1, 0, 0, 1, 1], F71_1O)]) [0, 0, 1, 1] (getAt F71_code [0, 0, 1, 1]) (fun o t w => match o with | .normal => F71_2 K0 n (t 0) (t 1) (t 4) (t 5) w | .exit i => F71_2C K0 (.exit i) t w | .ret => F71_2C K0 .ret t w) t w) := by kernel_rfl
theorem F71_2_ok : ∀ Q t w, F71_2O Q t w → W Tryd.prog Tryd.f71.ntmps (getAt F71_code [0, 1, 1]) Q t w := by
  intro Q t w ⟨n, h⟩
  refine (W_loop (P := Tryd.prog) (b := getAt F71_code [0, 0, 1, 1]) (Q := F71_2C (fun w => ∀ g, rsh [] (upds g []) fun t => Q (.exit 0) t w)) (G := fun n t w => F71_2 (fun w => ∀ g, rsh [] (upds g []) fun t => Q (.exit 0) t w) n (t 0) (t 1) (t 4) (t 5) w) (fun _ _ h => h) (fun n t w h => ?_) n t w h).mono ?_
  · rw [F71_2_step] at h
    exact vc_sound mixed (orcCons (π := [0, 1, 0, 0, 1, 0, 0, 1, 1]) F71_1_ok (orcNil F71_code)) _ _ rfl (okC_at F71_code_ok [0, 0, 1, 1]) _ _ _ (rsh_out h)
  · intro o t w q
    cases o with
    | normal => exact q.elim
    | exit i =>
      unfold F71_2C at q
      simp only at q
      split at q
      · rename_i hi
        rw [nbeq] at hi
        subst hi
        exact out_ok [] q
      · exact q.elim
    | ret => exact q.elim
def F71 (x0 : Value) (x1 : Value) (w : World) (K : Value → World → Prop) : Prop :=
  rdP x0 fun p1 => nn p1 fun a2 => ldI .i64 (a2.add 1) w fun n3 => ∃ k7 : Nat, F71_2 (fun w5 => ∀ _g6 : Tm, K (.tuple #[]) w5) k7 (.pointer p1) x1 (.int .i64 n3) (.int .i64 0) w
theorem F71_step (x0 : Value) (x1 : Value) (w : World) (K : Value → World → Prop) : (F71 x0 x1 w K) = rsh [(0, (.one .ptr))] (args0 #[x0, x1]) (fun t => vc Tryd.prog (orcOf [([0, 1, 0, 0, 1, 0, 0, 1, 1], F71_1O), ([0, 1, 1], F71_2O)]) [] F71_code (retQ Tryd.prog Tryd.f71 K) t w) := by kernel_rfl
theorem F71_ok {x0 x1 : Value} {w : World} {K : Value → World → Prop} (h : F71 x0 x1 w K) : Calls Tryd.prog 71 #[x0, x1] w fun e w' => ∃ v, e = .returned v ∧ K v w' := by
  rw [F71_step] at h
  exact calls_of (c := F71_code) mixed Tryd.func71 rfl (nlt rfl) (vc_sound mixed (orcCons (π := [0, 1, 0, 0, 1, 0, 0, 1, 1]) F71_1_ok (orcCons (π := [0, 1, 1]) F71_2_ok (orcNil F71_code))) F71_code [] rfl F71_code_ok _ _ _ (rsh_out h))

/-! (*ropewalk/spans.Set).All$1 -/
noncomputable def F72_code : Code := Tryd.f72.body.getD .skip
theorem F72_code_ok : okC Tryd.prog Tryd.f72.ntmps F72_code = true := by kernel_rfl
def F72 (x0 : Value) (x1 : Value) (x2 : Value) (w : World) (K : Value → World → Prop) : Prop :=
  rdI .i64 x0 fun n1 => rdA x1 fun a2 => rdA x2 fun a3 => drw w fun w4 => ldC a2 w4 fun l5a l5n l5c => ldP a3 w4 fun p6 => nn p6 fun a7 => ldI .u32 (a7.add 2) w4 fun n8 => alc (.cells #[(.int .u32 (IntKind.wrap .u32 (n8 + (IntKind.wrap .u32 (n1)))))] 22) w4 fun b9 w10 => Pres w4 w10 ∧ (∃ l11a l11n l11c w12, Sem.run Tryd.prog (Builtin.append_ #[34, 34] 34 #[(.slice l5a l5n l5c), (.slice (some (Addr.mk b9 0 none)) 1 1)]) w10 = .ok (.slice l11a l11n l11c) w12 ∧ (stc a2 (.slice l11a l11n l11c) w12 fun w13 => K (.tuple #[]) w13))
theorem F72_step (x0 : Value) (x1 : Value) (x2 : Value) (w : World) (K : Value → World → Prop) : (F72 x0 x1 x2 w K) = rsh [(0, (.one (.int .i64))), (1, (.one .adr)), (2, (.one .adr))] (args0 #[x0, x1, x2]) (fun t => vc Tryd.prog (orcOf []) [] F72_code (retQ Tryd.prog Tryd.f72 K) t w) := by kernel_rfl
theorem F72_ok {x0 x1 x2 : Value} {w : World} {K : Value → World → Prop} (h : F72 x0 x1 x2 w K) : Calls Tryd.prog 72 #[x0, x1, x2] w fun e w' => ∃ v, e = .returned v ∧ K v w' := by
  rw [F72_step] at h
  exact calls_of (c := F72_code) mixed Tryd.func72 rfl (nlt rfl) (vc_sound mixed (orcNil F72_code) F72_code [] rfl F72_code_ok _ _ _ (rsh_out h))

/-! (*ropewalk/spans.field).take -/
noncomputable def F73_code : Code := Tryd.f73.body.getD .skip
theorem F73_code_ok : okC Tryd.prog Tryd.f73.ntmps F73_code = true := by kernel_rfl
def F73_1C (Kr : Value → World → Prop) : Post := fun o t w => match o with | .normal => False | .exit i => (False) | .ret => Kr (t 4) w
def F73_1 (Kr : Value → World → Prop) (x0 : Value) (w : World) : Prop :=
  rdP x0 fun p1 => nn p1 fun a2 => ldI .i64 (a2.add 1) w fun n3 => nn p1 fun a4 => stc (a4.add 1) (.int .i64 (IntKind.wrap .i64 (n3 - 1))) w fun w5 => Kr (.bool true) w5
def F73_1O (Q : Post) (t : Tm) (w : World) : Prop := F73_1 (fun y4 w => ∀ g, rsh [(4, (.one .bool))] (upds g [(4, y4)]) fun t => Q .ret t w) (t 0) w
theorem F73_1_step (Kr : Value → World → Prop) (t : Tm) (w : World) : (F73_1 Kr (t 0) w) = rsh [(0, (.one .ptr))] t (fun t => vc Tryd.prog (orcOf []) [1, 1, 1, 1, 1] (getAt F73_code [1, 1, 1, 1, 1]) (F73_1C Kr) t w) := by kernel_rfl
theorem F73_1_ok : ∀ Q t w, F73_1O Q t w → W Tryd.prog Tryd.f73.ntmps (getAt F73_code [1, 1, 1, 1, 1]) Q t w := by
  intro Q t w h
  unfold F73_1O at h
  rw [F73_1_step] at h
  refine (vc_sound mixed (orcNil F73_code) _ _ rfl (okC_at F73_code_ok [1, 1, 1, 1, 1]) _ _ _ (rsh_out h)).mono ?_
  intro o t w q
  cases o with
  | normal => exact q.elim
  | exit i => exact q.elim
  | ret => exact out_ok [4] q
def F73 (x0 : Value) (x1 : Value) (w : World) (K : Value → World → Prop) : Prop :=
  rdP x0 fun p1 => rdI .i64 x1 fun n2 => Calls Tryd.prog 63 #[(.pointer p1), (.int .i64 n2)] w fun e5 w4 => ∃ b3, e5 = .returned (.bool b3) ∧ (br (!b3) (K (.bool false) w4) (Calls Tryd.prog 76 #[(.pointer p1), (.int .i64 n2)] w4 fun e9 w8 => ∃ n6 n7, e9 = .returned (.tuple #[(.int .i64 n6), (.int .u64 n7)]) ∧ (nn p1 fun a10 => ldM (a10.add 0) w8 fun m11 => ∃ n12, lookF Tryd.prog 3 83 (.map m11) (.int .i64 n6) false w8 = some (.int .u64 n12) ∧ (∃ w13, Sem.run Tryd.prog (Instr.mapUpdate 95 (.map m11) (.int .i64 n6) (.int .u64 (bitI .andNot .u64 n12 n7))) w8 = .ok () w13 ∧ (nn p1 fun a14 => ldM (a14.add 0) w13 fun m15 => ∃ n16, lookF Tryd.prog 3 83 (.map m15) (.int .i64 n6) false w13 = some (.int .u64 n16) ∧ (br (n16 == 0) (nn p1 fun a17 => ldM (a17.add 0) w13 fun m18 => ∃ w19, Sem.run Tryd.prog (Builtin.delete_ #[95, 3] 0 #[(.map m18), (.int .i64 n6)]) w13 = .ok (.tuple #[]) w19 ∧ (F73_1 (fun y4_19 w21 => ∀ _g22 : Tm, rdB y4_19 fun b23 => K (.bool b23) w21) (.pointer p1) w19)) (F73_1 (fun y4_23 w25 => ∀ _g26 : Tm, rdB y4_23 fun b27 => K (.bool b27) w25) (.pointer p1) w13)))))))
theorem F73_step (x0 : Value) (x1 : Value) (w : World) (K : Value → World → Prop) : (F73 x0 x1 w K) = rsh [(0, (.one .ptr)), (1, (.one (.int .i64)))] (args0 #[x0, x1]) (fun t => vc Tryd.prog (orcOf [([1, 1, 1, 1, 1], F73_1O)]) [] F73_code (retQ Tryd.prog Tryd.f73 K) t w) := by kernel_rfl
theorem F73_ok {x0 x1 : Value} {w : World} {K : Value → World → Prop} (h : F73 x0 x1 w K) : Calls Tryd.prog 73 #[x0, x1] w fun e w' => ∃ v, e = .returned v ∧ K v w' := by
  rw [F73_step] at h
  exact calls_of (c := F73_code) mixed Tryd.func73 rfl (nlt rfl) (vc_sound mixed (orcCons (π := [1, 1, 1, 1, 1]) F73_1_ok (orcNil F73_code)) F73_code [] rfl F73_code_ok _ _ _ (rsh_out h))

/-! slices.IndexFunc[[]uint32,uint32] -/
noncomputable def F74_code : Code := Tryd.f74.body.getD .skip
theorem F74_code_ok : okC Tryd.prog Tryd.f74.ntmps F74_code = true := by kernel_rfl
def F74_1C (K0 : World → Prop) (Kr : Value → World → Prop) : Post := fun o t w => match o with | .normal => False | .exit i => (match Nat.beq i 0 with | true => K0  w | false => False) | .ret => Kr (t 4) w
def F74_1B (R : Value → Value → Value → Value → World → Prop) (K0 : World → Prop) (Kr : Value → World → Prop) (x0 : Value) (x1 : Value) (x7 : Value) (x8 : Value) (w : World) : Prop :=
  rdC x0 fun l1a l1n l1c => rdI .i64 x7 fun n2 => rdI .i64 x8 fun n3 => br (decide ((n3 : Int) < n2)) (ixS 1 l1a l1n n3 fun a4 => ldI .u32 a4 w fun n5 => callV Tryd.prog x1 #[(.int .u32 n5)] w (.one (.one .bool)) fun r8 w7 => ∃ b9, r8 = (.bool b9) ∧ (br b9 (Kr (.int .i64 n3) w7) (R (.slice l1a l1n l1c) x1 (.int .i64 n2) (.int .i64 (IntKind.wrap .i64 (n3 + 1))) w7))) (K0 w)
def F74_1 (K0 : World → Prop) (Kr : Value → World → Prop) : Nat → Value → Value → Value → Value → World → Prop
  | 0 => fun _ _ _ _ _ => False
  | n + 1 => F74_1B (F74_1 K0 Kr n) K0 Kr
def F74_1O (Q : Post) (t : Tm) (w : World) : Prop := ∃ n, F74_1 (fun w => ∀ g, rsh [] (upds g []) fun t => Q (.exit 0) t w) (fun y4 w => ∀ g, rsh [(4, (.one (.int .i64)))] (upds g [(4, y4)]) fun t => Q .ret t w) n (t 0) (t 1) (t 7) (t 8) w
theorem F74_1_step (K0 : World → Prop) (Kr : Value → World → Prop) (n : Nat) (t : Tm) (w : World) : (F74_1 K0 Kr (n + 1) (t 0) (t 1) (t 7) (t 8) w) = rsh [(0, (.one .slc)), (7, (.one (.int .i64))), (8, (.one (.int .i64)))] t (fun t => vc Tryd.prog (orcOf []) [0, 0, 1, 0, 1] (getAt F74_code [0, 0, 1, 0, 1]) (fun o t w => match o with | .normal => F74_1 K0 Kr n (t 0) (t 1) (t 7) (t 8) w | .exit i => F74_1C K0 Kr (.exit i) t w | .ret => F74_1C K0 Kr .ret t w) t w) := by kernel_rfl
theorem F74_1_ok : ∀ Q t w, F74_1O Q t w → W Tryd.prog Tryd.f74.ntmps (getAt F74_code [0, 1, 0, 1]) Q t w := by
  intro Q t w ⟨n, h⟩
  refine (W_loop (P := Tryd.prog) (b := getAt F74_code [0, 0, 1, 0, 1]) (Q := F74_1C (fun w => ∀ g, rsh [] (upds g []) fun t => Q (.exit 0) t w) (fun y4 w => ∀ g, rsh [(4, (.one (.int .i64)))] (upds g [(4, y4)]) fun t => Q .ret t w)) (G := fun n t w => F74_1 (fun w => ∀ g, rsh [] (upds g []) fun t => Q (.exit 0) t w) (fun y4 w => ∀ g, rsh [(4, (.one (.int .i64)))] (upds g [(4, y4)]) fun t => Q .ret t w) n (t 0) (t 1) (t 7) (t 8) w) (fun _ _ h => h) (fun n t w h => ?_) n t w h).mono ?_
  · rw [F74_1_step] at h
    exact vc_sound mixed (orcNil F74_code) _ _ rfl (okC_at F74_code_ok [0, 0, 1, 0, 1]) _ _ _ (rsh_out h)
  · intro o t w q
    cases o with
    | normal => exact q.elim
    | exit i =>
      unfold F74_1C at q
      simp only at q
      split at q
      · rename_i hi
        rw [nbeq] at hi
        subst hi
        exact out_ok [] q
      · exact q.elim
    | ret => exact out_ok [4] q
def F74 (x0 : Value) (x1 : Value) (w : World) (K : Value → World → Prop) : Prop :=
  rdC x0 fun l1a l1n l1c => ∃ k9 : Nat, F74_1 (fun w3 => ∀ _g4 : Tm, K (.int .i64 (-1)) w3) (fun y4_4 w6 => ∀ _g7 : Tm, rdI .i64 y4_4 fun n8 => K (.int .i64 n8) w6) k9 (.slice l1a l1n l1c) x1 (.int .i64 (l1n : Int)) (.int .i64 0) w
theorem F74_step (x0 : Value) (x1 : Value) (w : World) (K : Value → World → Prop) : (F74 x0 x1 w K) = rsh [(0, (.one .slc))] (args0 #[x0, x1]) (fun t => vc Tryd.prog (orcOf [([0, 1, 0, 1], F74_1O)]) [] F74_code (retQ Tryd.prog Tryd.f74 K) t w) := by kernel_rfl
theorem F74_ok {x0 x1 : Value} {w : World} {K : Value → World → Prop} (h : F74 x0 x1 w K) : Calls Tryd.prog 74 #[x0, x1] w fun e w' => ∃ v, e = .returned v ∧ K v w' := by
  rw [F74_step] at h
  exact calls_of (c := F74_code) mixed Tryd.func74 rfl (nlt rfl) (vc_sound mixed (orcCons (π := [0, 1, 0, 1]) F74_1_ok (orcNil F74_code)) F74_code [] rfl F74_code_ok _ _ _ (rsh_out h))

/-! ropewalk/serial.off[uint32] -/
noncomputable def F75_code : Code := Tryd.f75.body.getD .skip
theorem F75_code_ok : okC Tryd.prog Tryd.f75.ntmps F75_code = true := by kernel_rfl
def F75 (x0 : Value) (x1 : Value) (w : World) (K : Value → World → Prop) : Prop :=
  rdI .u32 x0 fun n1 => rdI .u32 x1 fun n2 => br (decide (((IntKind.wrap .i64 ((IntKind.wrap .u32 (n2 - n1)))) : Int) ≥ (IntKind.wrap .i64 ((IntKind.wrap .i64 ((IntKind.wrap .u32 (Int.tdiv (bitI .xor .u32 (if IntKind.signed .u32 then -1 else IntKind.max .u32) (IntKind.wrap .u32 (0))) 2)))) + 1)))) (K (.int .i64 (IntKind.wrap .i64 ((IntKind.wrap .i64 ((IntKind.wrap .u32 (n2 - n1)))) - (IntKind.wrap .i64 (2 * (IntKind.wrap .i64 ((IntKind.wrap .i64 ((IntKind.wrap .u32 (Int.tdiv (bitI .xor .u32 (if IntKind.signed .u32 then -1 else IntKind.max .u32) (IntKind.wrap .u32 (0))) 2)))) + 1))))))) w) (K (.int .i64 (IntKind.wrap .i64 ((IntKind.wrap .u32 (n2 - n1))))) w)
theorem F75_step (x0 : Value) (x1 : Value) (w : World) (K : Value → World → Prop) : (F75 x0 x1 w K) = rsh [(0, (.one (.int .u32))), (1, (.one (.int .u32)))] (args0 #[x0, x1]) (fun t => vc Tryd.prog (orcOf []) [] F75_code (retQ Tryd.prog Tryd.f75 K) t w) := by kernel_rfl
theorem F75_ok {x0 x1 : Value} {w : World} {K : Value → World → Prop} (h : F75 x0 x1 w K) : Calls Tryd.prog 75 #[x0, x1] w fun e w' => ∃ v, e = .returned v ∧ K v w' := by
  rw [F75_step] at h
  exact calls_of (c := F75_code) mixed Tryd.func75 rfl (nlt rfl) (vc_sound mixed (orcNil F75_code) F75_code [] rfl F75_code_ok _ _ _ (rsh_out h))

/-! (*ropewalk/spans.field).bit -/
noncomputable def F76_code : Code := Tryd.f76.body.getD .skip
theorem F76_code_ok : okC Tryd.prog Tryd.f76.ntmps F76_code = true := by kernel_rfl
def F76 (x0 : Value) (x1 : Value) (w : World) (K : Value → World → Prop) : Prop :=
  rdI .i64 x1 fun n1 => drw w fun w2 => shc (Int.tmod n1 64) fun h3 => K (.tuple #[(.int .i64 (IntKind.wrap .i64 (Int.tdiv n1 64))), (.int .u64 (IntKind.wrap .u64 (1 * 2 ^ (min h3 (IntKind.bits .u64)))))]) w2
theorem F76_step (x0 : Value) (x1 : Value) (w : World) (K : Value → World → Prop) : (F76 x0 x1 w K) = rsh [(1, (.one (.int .i64)))] (args0 #[x0, x1]) (fun t => vc Tryd.prog (orcOf []) [] F76_code (retQ Tryd.prog Tryd.f76 K) t w) := by kernel_rfl
theorem F76_ok {x0 x1 : Value} {w : World} {K : Value → World → Prop} (h : F76 x0 x1 w K) : Calls Tryd.prog 76 #[x0, x1] w fun e w' => ∃ v, e = .returned v ∧ K v w' := by
  rw [F76_step] at h
  exact calls_of (c := F76_code) mixed Tryd.func76 rfl (nlt rfl) (vc_sound mixed (orcNil F76_code) F76_code [] rfl F76_code_ok _ _ _ (rsh_out h))

/-! (*ropewalk/spans.Set).move$1 -/
noncomputable def F77_code : Code := Tryd.f77.body.getD .skip
theorem F77_code_ok : okC Tryd.prog Tryd.f77.ntmps F77_code = true := by kernel_rfl
def F77 (x0 : Value) (x1 : Value) (x2 : Value) (w : World) (K : Value → World → Prop) : Prop :=
  rdI .i64 x0 fun n1 => rdA x1 fun a2 => rdA x2 fun a3 => ldI .i64 a2 w fun n4 => br (decide ((n1 : Int) > n4)) (drw w fun w5 => ldP a3 w5 fun p6 => nn p6 fun a7 => ldI .i64 a2 w5 fun n8 => Calls Tryd.prog 62 #[(.pointer (some (a7.add 0))), (.int .i64 (IntKind.wrap .i64 (n1 - n8)))] w5 fun e11 w10 => ∃ b9, e11 = .returned (.bool b9) ∧ (K (.tuple #[]) w10)) (K (.tuple #[]) w)
theorem F77_step (x0 : Value) (x1 : Value) (x2 : Value) (w : World) (K : Value → World → Prop) : (F77 x0 x1 x2 w K) = rsh [(0, (.one (.int .i64))), (1, (.one .adr)), (2, (.one .adr))] (args0 #[x0, x1, x2]) (fun t => vc Tryd.prog (orcOf []) [] F77_code (retQ Tryd.prog Tryd.f77 K) t w) := by kernel_rfl
theorem F77_ok {x0 x1 x2 : Value} {w : World} {K : Value → World → Prop} (h : F77 x0 x1 x2 w K) : Calls Tryd.prog 77 #[x0, x1, x2] w fun e w' => ∃ v, e = .returned v ∧ K v w' := by
  rw [F77_step] at h
  exact calls_of (c := F77_code) mixed Tryd.func77 rfl (nlt rfl) (vc_sound mixed (orcNil F77_code) F77_code [] rfl F77_code_ok _ _ _ (rsh_out h))

/-! slices.Index[[]uint32,uint32] -/
noncomputable def F78_code : Code := Tryd.f78.body.getD .skip
theorem F78_code_ok : okC Tryd.prog Tryd.f78.ntmps F78_code = true := by kernel_rfl
def F78_1C (K0 : World → Prop) (Kr : Value → World → Prop) : Post := fun o t w => match o with | .normal => False | .exit i => (match Nat.beq i 0 with | true => K0  w | false => False) | .ret => Kr (t 4) w
def F78_1B (R : Value → Value → Value → Value → World → Prop) (K0 : World → Prop) (Kr : Value → World → Prop) (x0 : Value) (x1 : Value) (x7 : Value) (x8 : Value) (w : World) : Prop :=
  rdC x0 fun l1a l1n l1c => rdI .u32 x1 fun n2 => rdI .i64 x7 fun n3 => rdI .i64 x8 fun n4 => br (decide ((n4 : Int) < n3)) (ixS 1 l1a l1n n4 fun a5 => ldI .u32 a5 w fun n6 => br (n2 == n6) (Kr (.int .i64 n4) w) (R (.slice l1a l1n l1c) (.int .u32 n2) (.int .i64 n3) (.int .i64 (IntKind.wrap .i64 (n4 + 1))) w)) (K0 w)
def F78_1 (K0 : World → Prop) (Kr : Value → World → Prop) : Nat → Value → Value → Value → Value → World → Prop
  | 0 => fun _ _ _ _ _ => False
  | n + 1 => F78_1B (F78_1 K0 Kr n) K0 Kr
def F78_1O (Q : Post) (t : Tm) (w : World) : Prop := ∃ n, F78_1 (fun w => ∀ g, rsh [] (upds g []) fun t => Q (.exit 0) t w) (fun y4 w => ∀ g, rsh [(4, (.one (.int .i64)))] (upds g [(4, y4)]) fun t => Q .ret t w) n (t 0) (t 1) (t 7) (t 8) w
theorem F78_1_step (K0 : World → Prop) (Kr : Value → World → Prop) (n : Nat) (t : Tm) (w : World) : (F78_1 K0 Kr (n + 1) (t 0) (t 1) (t 7) (t 8) w) = rsh [(0, (.one .slc)), (1, (.one (.int .u32))), (7, (.one (.int .i64))), (8, (.one (.int .i64)))] t (fun t => vc Tryd.prog (orcOf []) [0, 0, 1, 0, 1] (getAt F78_code [0, 0, 1, 0, 1]) (fun o t w => match o with | .normal => F78_1 K0 Kr n (t 0) (t 1) (t 7) (t 8) w | .exit i => F78_1C K0 Kr (.exit i) t w | .ret => F78_1C K0 Kr .ret t w) t w) := by kernel_rfl
theorem F78_1_ok : ∀ Q t w, F78_1O Q t w → W Tryd.prog Tryd.f78.ntmps (getAt F78_code [0, 1, 0, 1]) Q t w := by
  intro Q t w ⟨n, h⟩
  refine (W_loop (P := Tryd.prog) (b := getAt F78_code [0, 0, 1, 0, 1]) (Q := F78_1C (fun w => ∀ g, rsh [] (upds g []) fun t => Q (.exit 0) t w) (fun y4 w => ∀ g, rsh [(4, (.one (.int .i64)))] (upds g [(4, y4)]) fun t => Q .ret t w)) (G := fun n t w => F78_1 (fun w => ∀ g, rsh [] (upds g []) fun t => Q (.exit 0) t w) (fun y4 w => ∀ g, rsh [(4, (.one (.int .i64)))] (upds g [(4, y4)]) fun t => Q .ret t w) n (t 0) (t 1) (t 7) (t 8) w) (fun _ _ h => h) (fun n t w h => ?_) n t w h).mono ?_
  · rw [F78_1_step] at h
    exact vc_sound mixed (orcNil F78_code) _ _ rfl (okC_at F78_code_ok [0, 0, 1, 0, 1]) _ _ _ (rsh_out h)
  · intro o t w q
    cases o with
    | normal => exact q.elim
    | exit i =>
      unfold F78_1C at q
      simp only at q
      split at q
      · rename_i hi
        rw [nbeq] at hi
        subst hi
        exact out_ok [] q
      · exact q.elim
    | ret => exact out_ok [4] q
def F78 (x0 : Value) (x1 : Value) (w : World) (K : Value → World → Prop) : Prop :=
  rdC x0 fun l1a l1n l1c => rdI .u32 x1 fun n2 => ∃ k10 : Nat, F78_1 (fun w4 => ∀ _g5 : Tm, K (.int .i64 (-1)) w4) (fun y4_5 w7 => ∀ _g8 : Tm, rdI .i64 y4_5 fun n9 => K (.int .i64 n9) w7) k10 (.slice l1a l1n l1c) (.int .u32 n2) (.int .i64 (l1n : Int)) (.int .i64 0) w
theorem F78_step (x0 : Value) (x1 : Value) (w : World) (K : Value → World → Prop) : (F78 x0 x1 w K) = rsh [(0, (.one .slc)), (1, (.one (.int .u32)))] (args0 #[x0, x1]) (fun t => vc Tryd.prog (orcOf [([0, 1, 0, 1], F78_1O)]) [] F78_code (retQ Tryd.prog Tryd.f78 K) t w) := by kernel_rfl
theorem F78_ok {x0 x1 : Value} {w : World} {K : Value → World → Prop} (h : F78 x0 x1 w K) : Calls Tryd.prog 78 #[x0, x1] w fun e w' => ∃ v, e = .returned v ∧ K v w' := by
  rw [F78_step] at h
  exact calls_of (c := F78_code) mixed Tryd.func78 rfl (nlt rfl) (vc_sound mixed (orcCons (π := [0, 1, 0, 1]) F78_1_ok (orcNil F78_code)) F78_code [] rfl F78_code_ok _ _ _ (rsh_out h))

/-! (*ropewalk/ropewalkref03.Set).Gaps -/
noncomputable def F79_code : Code := Tryd.f79.body.getD .skip
theorem F79_code_ok : okC Tryd.prog Tryd.f79.ntmps F79_code = true := by kernel_rfl
def F79_1C (K1 : Value → Value → Value → Value → World → Prop) (Kn : Value → Value → Value → Value → World → Prop) : Post := fun o t w => match o with | .normal => Kn (t 0) (t 1) (t 5) (t 6) w | .exit i => (match Nat.beq i 1 with | true => K1 (t 0) (t 1) (t 5) (t 6) w | false => False) | .ret => False
def F79_1 (K1 : Value → Value → Value → Value → World → Prop) (Kn : Value → Value → Value → Value → World → Prop) (x0 : Value) (x1 : Value) (x5 : Value) (x6 : Value) (x36 : Value) (w : World) : Prop :=
  rdP x0 fun p1 => rdI .i64 x1 fun n2 => rdC x5 fun l3a l3n l3c => rdI .i64 x6 fun n4 => rdB x36 fun b5 => br b5 (ixS 2 l3a l3n (IntKind.wrap .i64 ((l3n : Int) - 1)) fun a6 => ldI .u16 (a6.add 1) w fun n7 => ixS 2 l3a l3n (IntKind.wrap .i64 ((l3n : Int) - 1)) fun a8 => stc (a8.add 1) (.int .u16 (IntKind.wrap .u16 (n7 + 1))) w fun w9 => K1 (.pointer p1) (.int .i64 n2) (.slice l3a l3n l3c) (.int .i64 n4) w9) (Kn (.pointer p1) (.int .i64 n2) (.slice l3a l3n l3c) (.int .i64 n4) w)
def F79_1O (Q : Post) (t : Tm) (w : World) : Prop := F79_1 (fun y0 y1 y5 y6 w => ∀ g, rsh [(0, (.one .ptr)), (1, (.one (.int .i64))), (5, (.one .slc)), (6, (.one (.int .i64)))] (upds g [(0, y0), (1, y1), (5, y5), (6, y6)]) fun t => Q (.exit 1) t w) (fun y0 y1 y5 y6 w => ∀ g, rsh [(0, (.one .ptr)), (1, (.one (.int .i64))), (5, (.one .slc)), (6, (.one (.int .i64)))] (upds g [(0, y0), (1, y1), (5, y5), (6, y6)]) fun t => Q .normal t w) (t 0) (t 1) (t 5) (t 6) (t 36) w
theorem F79_1_step (K1 : Value → Value → Value → Value → World → Prop) (Kn : Value → Value → Value → Value → World → Prop) (t : Tm) (w : World) : (F79_1 K1 Kn (t 0) (t 1) (t 5) (t 6) (t 36) w) = rsh [(0, (.one .ptr)), (1, (.one (.int .i64))), (5, (.one .slc)), (6, (.one (.int .i64))), (36, (.one .bool))] t (fun t => vc Tryd.prog (orcOf []) [1, 0, 0, 0, 1, 0, 0, 1, 0, 1, 1] (getAt F79_code [1, 0, 0, 0, 1, 0, 0, 1, 0, 1, 1]) (F79_1C K1 Kn) t w) := by kernel_rfl
theorem F79_1_ok : ∀ Q t w, F79_1O Q t w → W Tryd.prog Tryd.f79.ntmps (getAt F79_code [1, 0, 0, 0, 1, 0, 0, 1, 0, 1, 1]) Q t w := by
  intro Q t w h
  unfold F79_1O at h
  rw [F79_1_step] at h
  refine (vc_sound mixed (orcNil F79_code) _ _ rfl (okC_at F79_code_ok [1, 0, 0, 0, 1, 0, 0, 1, 0, 1, 1]) _ _ _ (rsh_out h)).mono ?_
  intro o t w q
  cases o with
  | normal => exact out_ok [0, 1, 5, 6] q
  | exit i =>
      unfold F79_1C at q
      simp only at q
      split at q
      · rename_i hi
        rw [nbeq] at hi
        subst hi
        exact out_ok [0, 1, 5, 6] q
      · exact q.elim
  | ret => exact q.elim
def F79_2C (K0 : Value → World → Prop) (Kr : Value → World → Prop) : Post := fun o t w => match o with | .normal => False | .exit i => (match Nat.beq i 0 with | true => K0 (t 5) w | false => False) | .ret => Kr (t 4) w
def F79_2B (R : Value → Value → Value → Value → World → Prop) (K0 : Value → World → Prop) (Kr : Value → World → Prop) (x0 : Value) (x1 : Value) (x5 : Value) (x6 : Value) (w : World) : Prop :=
  rdP x0 fun p1 => rdI .i64 x1 fun n2 => rdC x5 fun l3a l3n l3c => rdI .i64 x6 fun n4 => nn p1 fun a5 => ldC (a5.add 1) w fun l6a l6n l6c => br (decide ((n4 : Int) < (l6n : Int))) (drw w fun w7 => br (decide ((n4 : Int) > 0)) (nn p1 fun a8 => ldC (a8.add 1) w7 fun l9a l9n l9c => ixS 1 l9a l9n n4 fun a10 => ldI .i64 a10 w7 fun n11 => nn p1 fun a12 => ldC (a12.add 1) w7 fun l13a l13n l13c => ixS 1 l13a l13n (IntKind.wrap .i64 (n4 - 1)) fun a14 => ldI .i64 a14 w7 fun n15 => F79_1 (fun y0_15 y1_15 y5_15 y6_15 w17 => ∀ _g18 : Tm, rdP y0_15 fun p19 => rdI .i64 y1_15 fun n20 => rdC y5_15 fun l21a l21n l21c => rdI .i64 y6_15 fun n22 => R (.pointer p19) (.int .i64 n20) (.slice l21a l21n l21c) (.int .i64 (IntKind.wrap .i64 (n22 + 1))) w17) (fun y0_22 y1_22 y5_22 y6_22 w24 => ∀ _g25 : Tm, rdP y0_22 fun p26 => rdI .i64 y1_22 fun n27 => rdC y5_22 fun l28a l28n l28c => rdI .i64 y6_22 fun n29 => br (decide (((l28n : Int) : Int) ≥ n27)) (Kr (.slice l28a l28n l28c) w24) (drw w24 fun w30 => nn p26 fun a31 => ldC (a31.add 1) w30 fun l32a l32n l32c => ixS 1 l32a l32n n29 fun a33 => ldI .i64 a33 w30 fun n34 => nn p26 fun a35 => ldC (a35.add 1) w30 fun l36a l36n l36c => ixS 1 l36a l36n n29 fun a37 => ldI .i64 a37 w30 fun n38 => alc (.cells #[(.int .u16 (IntKind.wrap .u16 (n34))), (.int .u16 (IntKind.wrap .u16 (n38)))] 60) w30 fun b39 w40 => ∃ l41a l41n l41c w42, Sem.run Tryd.prog (Builtin.append_ #[50, 50] 50 #[(.slice l28a l28n l28c), (.slice (some (Addr.mk b39 0 none)) 1 1)]) w40 = .ok (.slice l41a l41n l41c) w42 ∧ (R (.pointer p26) (.int .i64 n27) (.slice l41a l41n l41c) (.int .i64 (IntKind.wrap .i64 (n29 + 1))) w42))) (.pointer p1) (.int .i64 n2) (.slice l3a l3n l3c) (.int .i64 n4) (.bool (n11 == (IntKind.wrap .i64 (n15 + 1)))) w7) (F79_1 (fun y0_42 y1_42 y5_42 y6_42 w44 => ∀ _g45 : Tm, rdP y0_42 fun p46 => rdI .i64 y1_42 fun n47 => rdC y5_42 fun l48a l48n l48c => rdI .i64 y6_42 fun n49 => R (.pointer p46) (.int .i64 n47) (.slice l48a l48n l48c) (.int .i64 (IntKind.wrap .i64 (n49 + 1))) w44) (fun y0_49 y1_49 y5_49 y6_49 w51 => ∀ _g52 : Tm, rdP y0_49 fun p53 => rdI .i64 y1_49 fun n54 => rdC y5_49 fun l55a l55n l55c => rdI .i64 y6_49 fun n56 => br (decide (((l55n : Int) : Int) ≥ n54)) (Kr (.slice l55a l55n l55c) w51) (drw w51 fun w57 => nn p53 fun a58 => ldC (a58.add 1) w57 fun l59a l59n l59c => ixS 1 l59a l59n n56 fun a60 => ldI .i64 a60 w57 fun n61 => nn p53 fun a62 => ldC (a62.add 1) w57 fun l63a l63n l63c => ixS 1 l63a l63n n56 fun a64 => ldI .i64 a64 w57 fun n65 => alc (.cells #[(.int .u16 (IntKind.wrap .u16 (n61))), (.int .u16 (IntKind.wrap .u16 (n65)))] 60) w57 fun b66 w67 => ∃ l68a l68n l68c w69, Sem.run Tryd.prog (Builtin.append_ #[50, 50] 50 #[(.slice l55a l55n l55c), (.slice (some (Addr.mk b66 0 none)) 1 1)]) w67 = .ok (.slice l68a l68n l68c) w69 ∧ (R (.pointer p53) (.int .i64 n54) (.slice l68a l68n l68c) (.int .i64 (IntKind.wrap .i64 (n56 + 1))) w69))) (.pointer p1) (.int .i64 n2) (.slice l3a l3n l3c) (.int .i64 n4) (.bool false) w7)) (K0 (.slice l3a l3n l3c) w)
def F79_2 (K0 : Value → World → Prop) (Kr : Value → World → Prop) : Nat → Value → Value → Value → Value → World → Prop
  | 0 => fun _ _ _ _ _ => False
  | n + 1 => F79_2B (F79_2 K0 Kr n) K0 Kr
def F79_2O (Q : Post) (t : Tm) (w : World) : Prop := ∃ n, F79_2 (fun y5 w => ∀ g, rsh [(5, (.one .slc))] (upds g [(5, y5)]) fun t => Q (.exit 0) t w) (fun y4 w => ∀ g, rsh [(4, (.one .slc))] (upds g [(4, y4)]) fun t => Q .ret t w) n (t 0) (t 1) (t 5) (t 6) w
theorem F79_2_step (K0 : Value → World → Prop) (Kr : Value → World → Prop) (n : Nat) (t : Tm) (w : World) : (F79_2 K0 Kr (n + 1) (t 0) (t 1) (t 5) (t 6) w) = rsh [(0, (.one .ptr)), (1, (.one (.int .i64))), (5, (.one .slc)), (6, (.one (.int .i64)))] t (fun t => vc Tryd.prog (orcOf [([1, 0, 0, 0, 1, 0, 0, 1, 0, 1, 1], F79_1O)]) [0, 0, 1, 0, 1, 1] (getAt F79_code [0, 0, 1, 0, 1, 1]) (fun o t w => match o with | .normal => F79_2 K0 Kr n (t 0) (t 1) (t 5) (t 6) w | .exit i => F79_2C K0 Kr (.exit i) t w | .ret => F79_2C K0 Kr .ret t w) t w) := by kernel_rfl
theorem F79_2_ok : ∀ Q t w, F79_2O Q t w → W Tryd.prog Tryd.f79.ntmps (getAt F79_code [0, 1, 0, 1, 1]) Q t w := by
  intro Q t w ⟨n, h⟩
  refine (W_loop (P := Tryd.prog) (b := getAt F79_code [0, 0, 1, 0, 1, 1]) (Q := F79_2C (fun y5 w => ∀ g, rsh [(5, (.one .slc))] (upds g [(5, y5)]) fun t => Q (.exit 0) t w) (fun y4 w => ∀ g, rsh [(4, (.one .slc))] (upds g [(4, y4)]) fun t => Q .ret t w)) (G := fun n t w => F79_2 (fun y5 w => ∀ g, rsh [(5, (.one .slc))] (upds g [(5, y5)]) fun t => Q (.exit 0) t w) (fun y4 w => ∀ g, rsh [(4, (.one .slc))] (upds g [(4, y4)]) fun t => Q .ret t w) n (t 0) (t 1) (t 5) (t 6) w) (fun _ _ h => h) (fun n t w h => ?_) n t w h).mono ?_
  · rw [F79_2_step] at h
    exact vc_sound mixed (orcCons (π := [1, 0, 0, 0, 1, 0, 0, 1, 0, 1, 1]) F79_1_ok (orcNil F79_code)) _ _ rfl (okC_at F79_code_ok [0, 0, 1, 0, 1, 1]) _ _ _ (rsh_out h)
  · intro o t w q
    cases o with
    | normal => exact q.elim
    | exit i =>
      unfold F79_2C at q
      simp only at q
      split at q
      · rename_i hi
        rw [nbeq] at hi
        subst hi
        exact out_ok [5] q
      · exact q.elim
    | ret => exact out_ok [4] q
def F79 (x0 : Value) (x1 : Value) (w : World) (K : Value → World → Prop) : Prop :=
  rdP x0 fun p1 => rdI .i64 x1 fun n2 => ∃ k11 : Nat, F79_2 (fun y5_2 w4 => ∀ _g5 : Tm, rdC y5_2 fun l6a l6n l6c => K (.slice l6a l6n l6c) w4) (fun y4_6 w8 => ∀ _g9 : Tm, rdC y4_6 fun l10a l10n l10c => K (.slice l10a l10n l10c) w8) k11 (.pointer p1) (.int .i64 n2) (.slice none 0 0) (.int .i64 0) w
theorem F79_step (x0 : Value) (x1 : Value) (w : World) (K : Value → World → Prop) : (F79 x0 x1 w K) = rsh [(0, (.one .ptr)), (1, (.one (.int .i64)))] (args0 #[x0, x1]) (fun t => vc Tryd.prog (orcOf [([1, 0, 0, 0, 1, 0, 0, 1, 0, 1, 1], F79_1O), ([0, 1, 0, 1, 1], F79_2O)]) [] F79_code (retQ Tryd.prog Tryd.f79 K) t w) := by kernel_rfl
theorem F79_ok {x0 x1 : Value} {w : World} {K : Value → World → Prop} (h : F79 x0 x1 w K) : Calls Tryd.prog 79 #[x0, x1] w fun e w' => ∃ v, e = .returned v ∧ K v w' := by
  rw [F79_step] at h
  exact calls_of (c := F79_code) mixed Tryd.func79 rfl (nlt rfl) (vc_sound mixed (orcCons (π := [1, 0, 0, 0, 1, 0, 0, 1, 0, 1, 1]) F79_1_ok (orcCons (π := [0, 1, 0, 1, 1]) F79_2_ok (orcNil F79_code))) F79_code [] rfl F79_code_ok _ _ _ (rsh_out h))

/-! math/bits.TrailingZeros64 -/
noncomputable def F80_code : Code := Tryd.f80.body.getD .skip
theorem F80_code_ok : okC Tryd.prog Tryd.f80.ntmps F80_code = true := by kernel_rfl
def F80 (x0 : Value) (w : World) (K : Value → World → Prop) : Prop :=
  rdI .u64 x0 fun n1 => br (n1 == 0) (K (.int .i64 64) w) (ixA 1 64 (Addr.mk 0 0 none) (Int.fdiv (IntKind.wrap .u64 ((bitI .and .u64 n1 (IntKind.wrap .u64 (0 - n1))) * 285870213051353865)) (2 ^ (min 58 (IntKind.bits .u64)))) fun a2 => ldI .u8 a2 w fun n3 => K (.int .i64 (IntKind.wrap .i64 (n3))) w)
theorem F80_step (x0 : Value) (w : World) (K : Value → World → Prop) : (F80 x0 w K) = rsh [(0, (.one (.int .u64)))] (args0 #[x0]) (fun t => vc Tryd.prog (orcOf []) [] F80_code (retQ Tryd.prog Tryd.f80 K) t w) := by kernel_rfl
theorem F80_ok {x0 : Value} {w : World} {K : Value → World → Prop} (h : F80 x0 w K) : Calls Tryd.prog 80 #[x0] w fun e w' => ∃ v, e = .returned v ∧ K v w' := by
  rw [F80_step] at h
  exact calls_of (c := F80_code) mixed Tryd.func80 rfl (nlt rfl) (vc_sound mixed (orcNil F80_code) F80_code [] rfl F80_code_ok _ _ _ (rsh_out h))
end Go.Proofs.YtccffjlahpfdaaaDoor
