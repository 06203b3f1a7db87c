/- Own text: part of the shallow reading of the code and of the contracts that are proved over it. -/
import Derived.Test.YtjcigidbnpmeaaaDoorShG
import Derived.Test.YtjcigidbnpmeaaaDoorProg
import Derived.KernelRfl
namespace Go.Proofs.YtjcigidbnpmeaaaDoor
open Go Go.Sh
set_option maxRecDepth 100000
theorem mixed : Tryd.prog.follows .mixedOrders = true := by kernel_rfl
/-! ropewalk/ropewalklaw03.SpansOrder -/
noncomputable def F3_code : Code := Tryd.f3.body.getD .skip
theorem F3_code_ok : okC Tryd.prog Tryd.f3.ntmps F3_code = true := by kernel_rfl
def F3_1C (K0 : Value → Value → Value → World → Prop) : Post := fun o t w => match o with | .normal => False | .exit i => (match Nat.beq i 0 with | true => K0 (t 0) (t 1) (t 5) w | false => False) | .ret => False
def F3_1B (R : Value → Value → Value → Value → World → Prop) (K0 : Value → Value → Value → World → Prop) (x0 : Value) (x1 : Value) (x5 : Value) (x6 : Value) (w : World) : Prop :=
  rdI .u32 x0 fun n1 => rdC x1 fun l2a l2n l2c => rdC x5 fun l3a l3n l3c => rdI .i64 x6 fun n4 => br (decide ((n4 : Int) ≥ 0)) (ixS 1 l2a l2n n4 fun a5 => ldI .u16 a5 w fun n6 => alc (.cells #[(.int .u16 n6)] 24) w fun b7 w8 => ∃ l9a l9n l9c w10, Sem.run Tryd.prog (Builtin.append_ #[23, 23] 23 #[(.slice l3a l3n l3c), (.slice (some (Addr.mk b7 0 none)) 1 1)]) w8 = .ok (.slice l9a l9n l9c) w10 ∧ (R (.int .u32 n1) (.slice l2a l2n l2c) (.slice l9a l9n l9c) (.int .i64 (IntKind.wrap .i64 (n4 - 1))) w10)) (K0 (.int .u32 n1) (.slice l2a l2n l2c) (.slice l3a l3n l3c) w)
def F3_1 (K0 : Value → Value → Value → World → Prop) : Nat → Value → Value → Value → Value → World → Prop
  | 0 => fun _ _ _ _ _ => False
  | n + 1 => F3_1B (F3_1 K0 n) K0
def F3_1O (Q : Post) (t : Tm) (w : World) : Prop := ∃ n, F3_1 (fun y0 y1 y5 w => ∀ g, rsh [(0, (.one (.int .u32))), (1, (.one .slc)), (5, (.one .slc))] (upds g [(0, y0), (1, y1), (5, y5)]) fun t => Q (.exit 0) t w) n (t 0) (t 1) (t 5) (t 6) w
theorem F3_1_step (K0 : Value → Value → Value → World → Prop) (n : Nat) (t : Tm) (w : World) : (F3_1 K0 (n + 1) (t 0) (t 1) (t 5) (t 6) w) = rsh [(0, (.one (.int .u32))), (1, (.one .slc)), (5, (.one .slc)), (6, (.one (.int .i64)))] t (fun t => vc Tryd.prog (orcOf []) [0, 0, 1, 0, 1, 1, 1] (getAt F3_code [0, 0, 1, 0, 1, 1, 1]) (fun o t w => match o with | .normal => F3_1 K0 n (t 0) (t 1) (t 5) (t 6) w | .exit i => F3_1C K0 (.exit i) t w | .ret => F3_1C K0 .ret t w) t w) := by kernel_rfl
theorem F3_1_ok : ∀ Q t w, F3_1O Q t w → W Tryd.prog Tryd.f3.ntmps (getAt F3_code [0, 1, 0, 1, 1, 1]) Q t w := by
  intro Q t w ⟨n, h⟩
  refine (W_loop (P := Tryd.prog) (b := getAt F3_code [0, 0, 1, 0, 1, 1, 1]) (Q := F3_1C (fun y0 y1 y5 w => ∀ g, rsh [(0, (.one (.int .u32))), (1, (.one .slc)), (5, (.one .slc))] (upds g [(0, y0), (1, y1), (5, y5)]) fun t => Q (.exit 0) t w)) (G := fun n t w => F3_1 (fun y0 y1 y5 w => ∀ g, rsh [(0, (.one (.int .u32))), (1, (.one .slc)), (5, (.one .slc))] (upds g [(0, y0), (1, y1), (5, y5)]) fun t => Q (.exit 0) t w) n (t 0) (t 1) (t 5) (t 6) w) (fun _ _ h => h) (fun n t w h => ?_) n t w h).mono ?_
  · rw [F3_1_step] at h
    exact vc_sound mixed (orcNil F3_code) _ _ rfl (okC_at F3_code_ok [0, 0, 1, 0, 1, 1, 1]) _ _ _ (rsh_out h)
  · intro o t w q
    cases o with
    | normal => exact q.elim
    | exit i =>
      unfold F3_1C at q
      simp only at q
      split at q
      · rename_i hi
        rw [nbeq] at hi
        subst hi
        exact out_ok [0, 1, 5] q
      · exact q.elim
    | ret => exact q.elim
def F3_2C (Kr : Value → World → Prop) : Post := fun o t w => match o with | .normal => False | .exit i => (False) | .ret => Kr (t 4) w
def F3_2 (Kr : Value → World → Prop) (x0 : Value) (x1 : Value) (w : World) : Prop :=
  rdI .u32 x0 fun n1 => rdC x1 fun l2a l2n l2c => ∃ k35 : Nat, F3_1 (fun y0_2 y1_2 y5_2 w4 => ∀ _g5 : Tm, rdI .u32 y0_2 fun n6 => rdC y1_2 fun l7a l7n l7c => rdC y5_2 fun l8a l8n l8c => Calls Tryd.prog 9 #[(.int .u32 n6), (.slice l7a l7n l7c)] w4 fun e12 w11 => ∃ p9 b10, e12 = .returned (.tuple #[(.pointer p9), (.bool b10)]) ∧ (Calls Tryd.prog 9 #[(.int .u32 n6), (.slice l8a l8n l8c)] w11 fun e16 w15 => ∃ p13 b14, e16 = .returned (.tuple #[(.pointer p13), (.bool b14)]) ∧ (br b10 (br b14 (Calls Tryd.prog 10 #[(.pointer p9)] w15 fun e19 w18 => ∃ n17, e19 = .returned (.int .u32 n17) ∧ (Calls Tryd.prog 10 #[(.pointer p13)] w18 fun e22 w21 => ∃ n20, e22 = .returned (.int .u32 n20) ∧ (br (n17 == n20) (Calls Tryd.prog 12 #[(.pointer p9)] w21 fun e25 w24 => ∃ l23a l23n l23c, e25 = .returned (.slice l23a l23n l23c) ∧ (Calls Tryd.prog 12 #[(.pointer p13)] w24 fun e28 w27 => ∃ l26a l26n l26c, e28 = .returned (.slice l26a l26n l26c) ∧ (Calls Tryd.prog 11 #[(.slice l23a l23n l23c), (.slice l26a l26n l26c)] w27 fun e31 w30 => ∃ b29, e31 = .returned (.bool b29) ∧ (br b29 (Calls Tryd.prog 13 #[] w30 fun e34 w33 => ∃ b32, e34 = .returned (.bool b32) ∧ (Kr (.bool b32) w33)) (Kr (.bool false) w30))))) (Kr (.bool false) w21)))) (Kr (.bool false) w15)) (Kr (.bool false) w15)))) k35 (.int .u32 n1) (.slice l2a l2n l2c) (.slice none 0 0) (.int .i64 (IntKind.wrap .i64 ((l2n : Int) - 1))) w
def F3_2O (Q : Post) (t : Tm) (w : World) : Prop := F3_2 (fun y4 w => ∀ g, rsh [(4, (.one .bool))] (upds g [(4, y4)]) fun t => Q .ret t w) (t 0) (t 1) w
theorem F3_2_step (Kr : Value → World → Prop) (t : Tm) (w : World) : (F3_2 Kr (t 0) (t 1) w) = rsh [(0, (.one (.int .u32))), (1, (.one .slc))] t (fun t => vc Tryd.prog (orcOf [([0, 1, 0, 1, 1, 1], F3_1O)]) [1, 1] (getAt F3_code [1, 1]) (F3_2C Kr) t w) := by kernel_rfl
theorem F3_2_ok : ∀ Q t w, F3_2O Q t w → W Tryd.prog Tryd.f3.ntmps (getAt F3_code [1, 1]) Q t w := by
  intro Q t w h
  unfold F3_2O at h
  rw [F3_2_step] at h
  refine (vc_sound mixed (orcCons (π := [0, 1, 0, 1, 1, 1]) F3_1_ok (orcNil F3_code)) _ _ rfl (okC_at F3_code_ok [1, 1]) _ _ _ (rsh_out h)).mono ?_
  intro o t w q
  cases o with
  | normal => exact q.elim
  | exit i => exact q.elim
  | ret => exact out_ok [4] q
def F3 (x0 : Value) (x1 : Value) (w : World) (K : Value → World → Prop) : Prop :=
  rdI .u32 x0 fun n1 => rdC x1 fun l2a l2n l2c => br (decide (((l2n : Int) : Int) > 300)) (slS 1 l2a l2n l2c none (some (.int .i64 300)) fun l3a l3n l3c => F3_2 (fun y4_3 w5 => ∀ _g6 : Tm, rdB y4_3 fun b7 => K (.bool b7) w5) (.int .u32 n1) (.slice l3a l3n l3c) w) (F3_2 (fun y4_7 w9 => ∀ _g10 : Tm, rdB y4_7 fun b11 => K (.bool b11) w9) (.int .u32 n1) (.slice l2a l2n l2c) w)
theorem F3_step (x0 : Value) (x1 : Value) (w : World) (K : Value → World → Prop) : (F3 x0 x1 w K) = rsh [(0, (.one (.int .u32))), (1, (.one .slc))] (args0 #[x0, x1]) (fun t => vc Tryd.prog (orcOf [([0, 1, 0, 1, 1, 1], F3_1O), ([1, 1], F3_2O)]) [] F3_code (retQ Tryd.prog Tryd.f3 K) t w) := by kernel_rfl
theorem F3_ok {x0 x1 : Value} {w : World} {K : Value → World → Prop} (h : F3 x0 x1 w K) : Calls Tryd.prog 3 #[x0, x1] w fun e w' => ∃ v, e = .returned v ∧ K v w' := by
  rw [F3_step] at h
  exact calls_of (c := F3_code) mixed Tryd.func3 rfl (nlt rfl) (vc_sound mixed (orcCons (π := [0, 1, 0, 1, 1, 1]) F3_1_ok (orcCons (π := [1, 1]) F3_2_ok (orcNil F3_code))) F3_code [] rfl F3_code_ok _ _ _ (rsh_out h))

/-! ropewalk/ropewalklaw03.SpansBack -/
noncomputable def F4_code : Code := Tryd.f4.body.getD .skip
theorem F4_code_ok : okC Tryd.prog Tryd.f4.ntmps F4_code = true := by kernel_rfl
def F4 (x0 : Value) (x1 : Value) (w : World) (K : Value → World → Prop) : Prop :=
  rdI .u32 x0 fun n1 => rdC x1 fun l2a l2n l2c => Calls Tryd.prog 9 #[(.int .u32 n1), (.slice l2a l2n l2c)] w fun e6 w5 => ∃ p3 b4, e6 = .returned (.tuple #[(.pointer p3), (.bool b4)]) ∧ (br (!b4) (K (.bool false) w5) (Calls Tryd.prog 10 #[(.pointer p3)] w5 fun e9 w8 => ∃ n7, e9 = .returned (.int .u32 n7) ∧ (Calls Tryd.prog 15 #[(.pointer p3), (.int .i64 4096)] w8 fun e12 w11 => ∃ l10a l10n l10c, e12 = .returned (.slice l10a l10n l10c) ∧ (Calls Tryd.prog 14 #[(.int .u32 n7), (.slice l10a l10n l10c)] w11 fun e16 w15 => ∃ p13 n14, e16 = .returned (.tuple #[(.pointer p13), (.int .i64 n14)]) ∧ (br (n14 == 0) (br (!(Option.isNone p13)) (Calls Tryd.prog 10 #[(.pointer p13)] w15 fun e19 w18 => ∃ n17, e19 = .returned (.int .u32 n17) ∧ (Calls Tryd.prog 10 #[(.pointer p3)] w18 fun e22 w21 => ∃ n20, e22 = .returned (.int .u32 n20) ∧ (br (n17 == n20) (Calls Tryd.prog 12 #[(.pointer p13)] w21 fun e25 w24 => ∃ l23a l23n l23c, e25 = .returned (.slice l23a l23n l23c) ∧ (Calls Tryd.prog 12 #[(.pointer p3)] w24 fun e28 w27 => ∃ l26a l26n l26c, e28 = .returned (.slice l26a l26n l26c) ∧ (Calls Tryd.prog 11 #[(.slice l23a l23n l23c), (.slice l26a l26n l26c)] w27 fun e31 w30 => ∃ b29, e31 = .returned (.bool b29) ∧ (br b29 (Calls Tryd.prog 13 #[] w30 fun e34 w33 => ∃ b32, e34 = .returned (.bool b32) ∧ (K (.bool b32) w33)) (K (.bool false) w30))))) (K (.bool false) w21)))) (K (.bool false) w15)) (K (.bool false) w15))))))
theorem F4_step (x0 : Value) (x1 : Value) (w : World) (K : Value → World → Prop) : (F4 x0 x1 w K) = rsh [(0, (.one (.int .u32))), (1, (.one .slc))] (args0 #[x0, x1]) (fun t => vc Tryd.prog (orcOf []) [] F4_code (retQ Tryd.prog Tryd.f4 K) t w) := by kernel_rfl
theorem F4_ok {x0 x1 : Value} {w : World} {K : Value → World → Prop} (h : F4 x0 x1 w K) : Calls Tryd.prog 4 #[x0, x1] w fun e w' => ∃ v, e = .returned v ∧ K v w' := by
  rw [F4_step] at h
  exact calls_of (c := F4_code) mixed Tryd.func4 rfl (nlt rfl) (vc_sound mixed (orcNil F4_code) F4_code [] rfl F4_code_ok _ _ _ (rsh_out h))

/-! ropewalk/ropewalklaw03.SpansFrom -/
noncomputable def F5_code : Code := Tryd.f5.body.getD .skip
theorem F5_code_ok : okC Tryd.prog Tryd.f5.ntmps F5_code = true := by kernel_rfl
def F5_1C (Kr : Value → World → Prop) : Post := fun o t w => match o with | .normal => False | .exit i => (False) | .ret => Kr (t 4) w
def F5_1 (Kr : Value → World → Prop) (x5 : Value) (x7 : Value) (w : World) : Prop :=
  rdP x5 fun p1 => rdP x7 fun p2 => br (Option.isNone p2) (Calls Tryd.prog 13 #[] w fun e5 w4 => ∃ b3, e5 = .returned (.bool b3) ∧ (Kr (.bool b3) w4)) (Calls Tryd.prog 17 #[(.pointer p1), (.pointer p2)] w fun e8 w7 => ∃ b6, e8 = .returned (.bool b6) ∧ (br b6 (Calls Tryd.prog 13 #[] w7 fun e11 w10 => ∃ b9, e11 = .returned (.bool b9) ∧ (Kr (.bool b9) w10)) (Kr (.bool false) w7)))
def F5_1O (Q : Post) (t : Tm) (w : World) : Prop := F5_1 (fun y4 w => ∀ g, rsh [(4, (.one .bool))] (upds g [(4, y4)]) fun t => Q .ret t w) (t 5) (t 7) w
theorem F5_1_step (Kr : Value → World → Prop) (t : Tm) (w : World) : (F5_1 Kr (t 5) (t 7) w) = rsh [(5, (.one .ptr)), (7, (.one .ptr))] t (fun t => vc Tryd.prog (orcOf []) [1, 1, 1, 1] (getAt F5_code [1, 1, 1, 1]) (F5_1C Kr) t w) := by kernel_rfl
theorem F5_1_ok : ∀ Q t w, F5_1O Q t w → W Tryd.prog Tryd.f5.ntmps (getAt F5_code [1, 1, 1, 1]) Q t w := by
  intro Q t w h
  unfold F5_1O at h
  rw [F5_1_step] at h
  refine (vc_sound mixed (orcNil F5_code) _ _ rfl (okC_at F5_code_ok [1, 1, 1, 1]) _ _ _ (rsh_out h)).mono ?_
  intro o t w q
  cases o with
  | normal => exact q.elim
  | exit i => exact q.elim
  | ret => exact out_ok [4] q
def F5 (x0 : Value) (x1 : Value) (w : World) (K : Value → World → Prop) : Prop :=
  rdI .u32 x0 fun n1 => rdC x1 fun l2a l2n l2c => Calls Tryd.prog 14 #[(.int .u32 n1), (.slice l2a l2n l2c)] w fun e6 w5 => ∃ p3 n4, e6 = .returned (.tuple #[(.pointer p3), (.int .i64 n4)]) ∧ (Calls Tryd.prog 16 #[(.int .u32 n1), (.slice l2a l2n l2c)] w5 fun e10 w9 => ∃ p7 n8, e10 = .returned (.tuple #[(.pointer p7), (.int .i64 n8)]) ∧ (br (n4 != n8) (K (.bool false) w9) (br (!((Option.isNone p3) == (Option.isNone p7))) (K (.bool false) w9) (F5_1 (fun y4_10 w12 => ∀ _g13 : Tm, rdB y4_10 fun b14 => K (.bool b14) w12) (.pointer p3) (.pointer p7) w9))))
theorem F5_step (x0 : Value) (x1 : Value) (w : World) (K : Value → World → Prop) : (F5 x0 x1 w K) = rsh [(0, (.one (.int .u32))), (1, (.one .slc))] (args0 #[x0, x1]) (fun t => vc Tryd.prog (orcOf [([1, 1, 1, 1], F5_1O)]) [] F5_code (retQ Tryd.prog Tryd.f5 K) t w) := by kernel_rfl
theorem F5_ok {x0 x1 : Value} {w : World} {K : Value → World → Prop} (h : F5 x0 x1 w K) : Calls Tryd.prog 5 #[x0, x1] w fun e w' => ∃ v, e = .returned v ∧ K v w' := by
  rw [F5_step] at h
  exact calls_of (c := F5_code) mixed Tryd.func5 rfl (nlt rfl) (vc_sound mixed (orcCons (π := [1, 1, 1, 1]) F5_1_ok (orcNil F5_code)) F5_code [] rfl F5_code_ok _ _ _ (rsh_out h))

/-! ropewalk/ropewalklaw03.SpansAll -/
noncomputable def F6_code : Code := Tryd.f6.body.getD .skip
theorem F6_code_ok : okC Tryd.prog Tryd.f6.ntmps F6_code = true := by kernel_rfl
def F6_1C (K0 : World → Prop) (Kr : Value → World → Prop) : Post := fun o t w => match o with | .normal => False | .exit i => (match Nat.beq i 0 with | true => K0  w | false => False) | .ret => Kr (t 4) w
def F6_1B (R : Value → Value → Value → Value → World → Prop) (K0 : World → Prop) (Kr : Value → World → Prop) (x5 : Value) (x8 : Value) (x9 : Value) (x10 : Value) (w : World) : Prop :=
  rdP x5 fun p1 => rdC x8 fun l2a l2n l2c => rdI .i64 x9 fun n3 => rdI .i64 x10 fun n4 => br (decide ((n4 : Int) < (l2n : Int))) (drw w fun w5 => ixS 1 l2a l2n n4 fun a6 => ldI .u32 a6 w5 fun n7 => Calls Tryd.prog 10 #[(.pointer p1)] w5 fun e10 w9 => ∃ n8, e10 = .returned (.int .u32 n8) ∧ (Pres w5 w9 ∧ (Calls Tryd.prog 19 #[(.int .u32 n8), (.int .u32 n7)] w9 fun e13 w12 => ∃ n11, e13 = .returned (.int .i64 n11) ∧ (drw w12 fun w14 => ixS 1 l2a l2n n4 fun a15 => ldI .u32 a15 w14 fun n16 => Calls Tryd.prog 21 #[(.pointer p1), (.int .u32 n16)] w14 fun e19 w18 => ∃ b17, e19 = .returned (.bool b17) ∧ (br b17 (Kr (.bool false) w18) (br (decide ((n11 : Int) < 1)) (Kr (.bool false) w18) (br (decide ((n11 : Int) ≥ n3)) (Kr (.bool false) w18) (br (decide ((n4 : Int) > 0)) (ixS 1 l2a l2n (IntKind.wrap .i64 (n4 - 1)) fun a20 => ldI .u32 a20 w18 fun n21 => ixS 1 l2a l2n n4 fun a22 => ldI .u32 a22 w18 fun n23 => Calls Tryd.prog 22 #[(.int .u32 n21), (.int .u32 n23)] w18 fun e26 w25 => ∃ b24, e26 = .returned (.bool b24) ∧ (br (!b24) (Kr (.bool false) w25) (R (.pointer p1) (.slice l2a l2n l2c) (.int .i64 n3) (.int .i64 (IntKind.wrap .i64 (n4 + 1))) w25))) (R (.pointer p1) (.slice l2a l2n l2c) (.int .i64 n3) (.int .i64 (IntKind.wrap .i64 (n4 + 1))) w18))))))))) (K0 w)
def F6_1 (K0 : World → Prop) (Kr : Value → World → Prop) : Nat → Value → Value → Value → Value → World → Prop
  | 0 => fun _ _ _ _ _ => False
  | n + 1 => F6_1B (F6_1 K0 Kr n) K0 Kr
def F6_1O (Q : Post) (t : Tm) (w : World) : Prop := ∃ n, F6_1 (fun w => ∀ g, rsh [] (upds g []) fun t => Q (.exit 0) t w) (fun y4 w => ∀ g, rsh [(4, (.one .bool))] (upds g [(4, y4)]) fun t => Q .ret t w) n (t 5) (t 8) (t 9) (t 10) w
theorem F6_1_step (K0 : World → Prop) (Kr : Value → World → Prop) (n : Nat) (t : Tm) (w : World) : (F6_1 K0 Kr (n + 1) (t 5) (t 8) (t 9) (t 10) w) = rsh [(5, (.one .ptr)), (8, (.one .slc)), (9, (.one (.int .i64))), (10, (.one (.int .i64)))] t (fun t => vc Tryd.prog (orcOf []) [0, 0, 1, 0, 1, 1, 1, 1, 1, 1] (getAt F6_code [0, 0, 1, 0, 1, 1, 1, 1, 1, 1]) (fun o t w => match o with | .normal => F6_1 K0 Kr n (t 5) (t 8) (t 9) (t 10) w | .exit i => F6_1C K0 Kr (.exit i) t w | .ret => F6_1C K0 Kr .ret t w) t w) := by kernel_rfl
theorem F6_1_ok : ∀ Q t w, F6_1O Q t w → W Tryd.prog Tryd.f6.ntmps (getAt F6_code [0, 1, 0, 1, 1, 1, 1, 1, 1]) Q t w := by
  intro Q t w ⟨n, h⟩
  refine (W_loop (P := Tryd.prog) (b := getAt F6_code [0, 0, 1, 0, 1, 1, 1, 1, 1, 1]) (Q := F6_1C (fun w => ∀ g, rsh [] (upds g []) fun t => Q (.exit 0) t w) (fun y4 w => ∀ g, rsh [(4, (.one .bool))] (upds g [(4, y4)]) fun t => Q .ret t w)) (G := fun n t w => F6_1 (fun w => ∀ g, rsh [] (upds g []) fun t => Q (.exit 0) t w) (fun y4 w => ∀ g, rsh [(4, (.one .bool))] (upds g [(4, y4)]) fun t => Q .ret t w) n (t 5) (t 8) (t 9) (t 10) w) (fun _ _ h => h) (fun n t w h => ?_) n t w h).mono ?_
  · rw [F6_1_step] at h
    exact vc_sound mixed (orcNil F6_code) _ _ rfl (okC_at F6_code_ok [0, 0, 1, 0, 1, 1, 1, 1, 1, 1]) _ _ _ (rsh_out h)
  · intro o t w q
    cases o with
    | normal => exact q.elim
    | exit i =>
      unfold F6_1C at q
      simp only at q
      split at q
      · rename_i hi
        rw [nbeq] at hi
        subst hi
        exact out_ok [] q
      · exact q.elim
    | ret => exact out_ok [4] q
def F6 (x0 : Value) (x1 : Value) (w : World) (K : Value → World → Prop) : Prop :=
  rdI .u32 x0 fun n1 => rdC x1 fun l2a l2n l2c => Calls Tryd.prog 9 #[(.int .u32 n1), (.slice l2a l2n l2c)] w fun e6 w5 => ∃ p3 b4, e6 = .returned (.tuple #[(.pointer p3), (.bool b4)]) ∧ (br (!b4) (K (.bool false) w5) (Calls Tryd.prog 12 #[(.pointer p3)] w5 fun e9 w8 => ∃ l7a l7n l7c, e9 = .returned (.slice l7a l7n l7c) ∧ (Calls Tryd.prog 18 #[(.pointer p3), (.int .i64 70000)] w8 fun e12 w11 => ∃ l10a l10n l10c, e12 = .returned (.slice l10a l10n l10c) ∧ (Calls Tryd.prog 10 #[(.pointer p3)] w11 fun e15 w14 => ∃ n13, e15 = .returned (.int .u32 n13) ∧ (Calls Tryd.prog 20 #[(.pointer p3)] w14 fun e18 w17 => ∃ n16, e18 = .returned (.int .u32 n16) ∧ (Calls Tryd.prog 19 #[(.int .u32 n13), (.int .u32 n16)] w17 fun e21 w20 => ∃ n19, e21 = .returned (.int .i64 n19) ∧ (br ((IntKind.wrap .i64 ((l7n : Int) + (l10n : Int))) != n19) (K (.bool false) w20) (∃ k32 : Nat, F6_1 (fun w23 => ∀ _g24 : Tm, Calls Tryd.prog 13 #[] w23 fun e27 w26 => ∃ b25, e27 = .returned (.bool b25) ∧ (K (.bool b25) w26)) (fun y4_27 w29 => ∀ _g30 : Tm, rdB y4_27 fun b31 => K (.bool b31) w29) k32 (.pointer p3) (.slice l10a l10n l10c) (.int .i64 n19) (.int .i64 0) w20))))))))
theorem F6_step (x0 : Value) (x1 : Value) (w : World) (K : Value → World → Prop) : (F6 x0 x1 w K) = rsh [(0, (.one (.int .u32))), (1, (.one .slc))] (args0 #[x0, x1]) (fun t => vc Tryd.prog (orcOf [([0, 1, 0, 1, 1, 1, 1, 1, 1], F6_1O)]) [] F6_code (retQ Tryd.prog Tryd.f6 K) t w) := by kernel_rfl
theorem F6_ok {x0 x1 : Value} {w : World} {K : Value → World → Prop} (h : F6 x0 x1 w K) : Calls Tryd.prog 6 #[x0, x1] w fun e w' => ∃ v, e = .returned v ∧ K v w' := by
  rw [F6_step] at h
  exact calls_of (c := F6_code) mixed Tryd.func6 rfl (nlt rfl) (vc_sound mixed (orcCons (π := [0, 1, 0, 1, 1, 1, 1, 1, 1]) F6_1_ok (orcNil F6_code)) F6_code [] rfl F6_code_ok _ _ _ (rsh_out h))

/-! ropewalk/ropewalklaw03.SpansRuns -/
noncomputable def F7_code : Code := Tryd.f7.body.getD .skip
theorem F7_code_ok : okC Tryd.prog Tryd.f7.ntmps F7_code = true := by kernel_rfl
def F7_1C (Kn : Value → Value → Value → Value → World → Prop) (Kr : Value → World → Prop) : Post := fun o t w => match o with | .normal => Kn (t 1) (t 5) (t 6) (t 7) w | .exit i => (False) | .ret => Kr (t 4) w
def F7_1 (Kn : Value → Value → Value → Value → World → Prop) (Kr : Value → World → Prop) (x1 : Value) (x5 : Value) (x6 : Value) (x7 : Value) (w : World) : Prop :=
  rdC x1 fun l1a l1n l1c => rdP x5 fun p2 => rdP x6 fun p3 => rdI .i64 x7 fun n4 => ixS 3 l1a l1n n4 fun a5 => ldI .i64 (a5.add 0) w fun n6 => ldI .u32 (a5.add 1) w fun n7 => ldI .i64 (a5.add 2) w fun n8 => alc (.cells #[(.int .i64 0), (.int .u32 0), (.int .i64 0)] 52) w fun b9 w10 => stc ((Addr.mk b9 0 none).add 0) (.int .i64 n6) w10 fun w11 => stc ((Addr.mk b9 0 none).add 1) (.int .u32 n7) w11 fun w12 => stc ((Addr.mk b9 0 none).add 2) (.int .i64 n8) w12 fun w13 => drw w13 fun w14 => nn p3 fun a15 => ldI .u32 (a15.add 0) w14 fun n16 => ldI .u32 ((Addr.mk b9 0 none).add 1) w14 fun n17 => Calls Tryd.prog 25 #[(.int .u32 n16), (.int .u32 n17)] w14 fun e20 w19 => ∃ n18, e20 = .returned (.int .u32 n18) ∧ (ldI .i64 ((Addr.mk b9 0 none).add 0) w19 fun n21 => br (n21 == 1) (Calls Tryd.prog 26 #[(.pointer p2), (.int .u32 n18)] w19 fun e25 w24 => ∃ b22 n23, e25 = .returned (.tuple #[(.bool b22), (.int .i64 n23)]) ∧ (Calls Tryd.prog 27 #[(.pointer p3), (.int .u32 n18)] w24 fun e29 w28 => ∃ b26 n27, e29 = .returned (.tuple #[(.bool b26), (.int .i64 n27)]) ∧ (br (!(b22 == b26)) (Kr (.bool false) w28) (br (n23 != n27) (Kr (.bool false) w28) (Calls Tryd.prog 17 #[(.pointer p2), (.pointer p3)] w28 fun e32 w31 => ∃ b30, e32 = .returned (.bool b30) ∧ (br (!b30) (Kr (.bool false) w31) (Kn (.slice l1a l1n l1c) (.pointer p2) (.pointer p3) (.int .i64 (IntKind.wrap .i64 (n4 + 1))) w31))))))) (br (n21 == 2) (Calls Tryd.prog 28 #[(.pointer p2), (.int .u32 n18)] w19 fun e35 w34 => ∃ b33, e35 = .returned (.bool b33) ∧ (Calls Tryd.prog 29 #[(.pointer p3), (.int .u32 n18)] w34 fun e38 w37 => ∃ b36, e38 = .returned (.bool b36) ∧ (br (!(b33 == b36)) (Kr (.bool false) w37) (Calls Tryd.prog 17 #[(.pointer p2), (.pointer p3)] w37 fun e41 w40 => ∃ b39, e41 = .returned (.bool b39) ∧ (br (!b39) (Kr (.bool false) w40) (Kn (.slice l1a l1n l1c) (.pointer p2) (.pointer p3) (.int .i64 (IntKind.wrap .i64 (n4 + 1))) w40)))))) (br (n21 == 3) (Calls Tryd.prog 21 #[(.pointer p2), (.int .u32 n18)] w19 fun e44 w43 => ∃ b42, e44 = .returned (.bool b42) ∧ (Calls Tryd.prog 30 #[(.pointer p3), (.int .u32 n18)] w43 fun e47 w46 => ∃ b45, e47 = .returned (.bool b45) ∧ (br (!(b42 == b45)) (Kr (.bool false) w46) (Calls Tryd.prog 17 #[(.pointer p2), (.pointer p3)] w46 fun e50 w49 => ∃ b48, e50 = .returned (.bool b48) ∧ (br (!b48) (Kr (.bool false) w49) (Kn (.slice l1a l1n l1c) (.pointer p2) (.pointer p3) (.int .i64 (IntKind.wrap .i64 (n4 + 1))) w49)))))) (ldI .i64 ((Addr.mk b9 0 none).add 2) w19 fun n51 => Calls Tryd.prog 15 #[(.pointer p2), (.int .i64 (Int.tmod n51 1000))] w19 fun e54 w53 => ∃ l52a l52n l52c, e54 = .returned (.slice l52a l52n l52c) ∧ (Calls Tryd.prog 32 #[(.pointer p3), (.int .i64 (Int.tmod n51 1000))] w53 fun e57 w56 => ∃ l55a l55n l55c, e57 = .returned (.slice l55a l55n l55c) ∧ (Calls Tryd.prog 31 #[(.slice l52a l52n l52c), (.slice l55a l55n l55c)] w56 fun e60 w59 => ∃ b58, e60 = .returned (.bool b58) ∧ (br (!b58) (Kr (.bool false) w59) (Calls Tryd.prog 18 #[(.pointer p2), (.int .i64 (Int.tmod n51 1000))] w59 fun e63 w62 => ∃ l61a l61n l61c, e63 = .returned (.slice l61a l61n l61c) ∧ (Calls Tryd.prog 33 #[(.pointer p3), (.int .i64 (Int.tmod n51 1000))] w62 fun e66 w65 => ∃ l64a l64n l64c, e66 = .returned (.slice l64a l64n l64c) ∧ (Calls Tryd.prog 11 #[(.slice l61a l61n l61c), (.slice l64a l64n l64c)] w65 fun e69 w68 => ∃ b67, e69 = .returned (.bool b67) ∧ (br (!b67) (Kr (.bool false) w68) (Calls Tryd.prog 17 #[(.pointer p2), (.pointer p3)] w68 fun e72 w71 => ∃ b70, e72 = .returned (.bool b70) ∧ (br (!b70) (Kr (.bool false) w71) (Kn (.slice l1a l1n l1c) (.pointer p2) (.pointer p3) (.int .i64 (IntKind.wrap .i64 (n4 + 1))) w71))))))))))))))
def F7_1O (Q : Post) (t : Tm) (w : World) : Prop := F7_1 (fun y1 y5 y6 y7 w => ∀ g, rsh [(1, (.one .slc)), (5, (.one .ptr)), (6, (.one .ptr)), (7, (.one (.int .i64)))] (upds g [(1, y1), (5, y5), (6, y6), (7, y7)]) fun t => Q .normal t w) (fun y4 w => ∀ g, rsh [(4, (.one .bool))] (upds g [(4, y4)]) fun t => Q .ret t w) (t 1) (t 5) (t 6) (t 7) w
theorem F7_1_step (Kn : Value → Value → Value → Value → World → Prop) (Kr : Value → World → Prop) (t : Tm) (w : World) : (F7_1 Kn Kr (t 1) (t 5) (t 6) (t 7) w) = rsh [(1, (.one .slc)), (5, (.one .ptr)), (6, (.one .ptr)), (7, (.one (.int .i64)))] t (fun t => vc Tryd.prog (orcOf []) [1, 0, 0, 1, 0, 1, 1, 1] (getAt F7_code [1, 0, 0, 1, 0, 1, 1, 1]) (F7_1C Kn Kr) t w) := by kernel_rfl
theorem F7_1_ok : ∀ Q t w, F7_1O Q t w → W Tryd.prog Tryd.f7.ntmps (getAt F7_code [1, 0, 0, 1, 0, 1, 1, 1]) Q t w := by
  intro Q t w h
  unfold F7_1O at h
  rw [F7_1_step] at h
  refine (vc_sound mixed (orcNil F7_code) _ _ rfl (okC_at F7_code_ok [1, 0, 0, 1, 0, 1, 1, 1]) _ _ _ (rsh_out h)).mono ?_
  intro o t w q
  cases o with
  | normal => exact out_ok [1, 5, 6, 7] q
  | exit i => exact q.elim
  | ret => exact out_ok [4] q
def F7_2C (K0 : World → Prop) (Kr : Value → World → Prop) : Post := fun o t w => match o with | .normal => False | .exit i => (match Nat.beq i 0 with | true => K0  w | false => False) | .ret => Kr (t 4) w
def F7_2B (R : Value → Value → Value → Value → World → Prop) (K0 : World → Prop) (Kr : Value → World → Prop) (x1 : Value) (x5 : Value) (x6 : Value) (x7 : Value) (w : World) : Prop :=
  rdC x1 fun l1a l1n l1c => rdP x5 fun p2 => rdP x6 fun p3 => rdI .i64 x7 fun n4 => br (decide ((n4 : Int) < (l1n : Int))) (br (decide ((n4 : Int) < 300)) (F7_1 (fun y1_4 y5_4 y6_4 y7_4 w6 => ∀ _g7 : Tm, rdC y1_4 fun l8a l8n l8c => rdP y5_4 fun p9 => rdP y6_4 fun p10 => rdI .i64 y7_4 fun n11 => R (.slice l8a l8n l8c) (.pointer p9) (.pointer p10) (.int .i64 n11) w6) (fun y4_11 w13 => ∀ _g14 : Tm, rdB y4_11 fun b15 => Kr (.bool b15) w13) (.slice l1a l1n l1c) (.pointer p2) (.pointer p3) (.int .i64 n4) w) (K0 w)) (K0 w)
def F7_2 (K0 : World → Prop) (Kr : Value → World → Prop) : Nat → Value → Value → Value → Value → World → Prop
  | 0 => fun _ _ _ _ _ => False
  | n + 1 => F7_2B (F7_2 K0 Kr n) K0 Kr
def F7_2O (Q : Post) (t : Tm) (w : World) : Prop := ∃ n, F7_2 (fun w => ∀ g, rsh [] (upds g []) fun t => Q (.exit 0) t w) (fun y4 w => ∀ g, rsh [(4, (.one .bool))] (upds g [(4, y4)]) fun t => Q .ret t w) n (t 1) (t 5) (t 6) (t 7) w
theorem F7_2_step (K0 : World → Prop) (Kr : Value → World → Prop) (n : Nat) (t : Tm) (w : World) : (F7_2 K0 Kr (n + 1) (t 1) (t 5) (t 6) (t 7) w) = rsh [(1, (.one .slc)), (5, (.one .ptr)), (6, (.one .ptr)), (7, (.one (.int .i64)))] t (fun t => vc Tryd.prog (orcOf [([1, 0, 0, 1, 0, 1, 1, 1], F7_1O)]) [0, 0, 1, 0, 1, 1, 1] (getAt F7_code [0, 0, 1, 0, 1, 1, 1]) (fun o t w => match o with | .normal => F7_2 K0 Kr n (t 1) (t 5) (t 6) (t 7) w | .exit i => F7_2C K0 Kr (.exit i) t w | .ret => F7_2C K0 Kr .ret t w) t w) := by kernel_rfl
theorem F7_2_ok : ∀ Q t w, F7_2O Q t w → W Tryd.prog Tryd.f7.ntmps (getAt F7_code [0, 1, 0, 1, 1, 1]) Q t w := by
  intro Q t w ⟨n, h⟩
  refine (W_loop (P := Tryd.prog) (b := getAt F7_code [0, 0, 1, 0, 1, 1, 1]) (Q := F7_2C (fun w => ∀ g, rsh [] (upds g []) fun t => Q (.exit 0) t w) (fun y4 w => ∀ g, rsh [(4, (.one .bool))] (upds g [(4, y4)]) fun t => Q .ret t w)) (G := fun n t w => F7_2 (fun w => ∀ g, rsh [] (upds g []) fun t => Q (.exit 0) t w) (fun y4 w => ∀ g, rsh [(4, (.one .bool))] (upds g [(4, y4)]) fun t => Q .ret t w) n (t 1) (t 5) (t 6) (t 7) w) (fun _ _ h => h) (fun n t w h => ?_) n t w h).mono ?_
  · rw [F7_2_step] at h
    exact vc_sound mixed (orcCons (π := [1, 0, 0, 1, 0, 1, 1, 1]) F7_1_ok (orcNil F7_code)) _ _ rfl (okC_at F7_code_ok [0, 0, 1, 0, 1, 1, 1]) _ _ _ (rsh_out h)
  · intro o t w q
    cases o with
    | normal => exact q.elim
    | exit i =>
      unfold F7_2C at q
      simp only at q
      split at q
      · rename_i hi
        rw [nbeq] at hi
        subst hi
        exact out_ok [] q
      · exact q.elim
    | ret => exact out_ok [4] q
def F7 (x0 : Value) (x1 : Value) (w : World) (K : Value → World → Prop) : Prop :=
  rdI .u32 x0 fun n1 => rdC x1 fun l2a l2n l2c => Calls Tryd.prog 23 #[(.int .u32 n1)] w fun e5 w4 => ∃ p3, e5 = .returned (.pointer p3) ∧ (Calls Tryd.prog 24 #[(.int .u32 n1)] w4 fun e8 w7 => ∃ p6, e8 = .returned (.pointer p6) ∧ (br (Option.isNone p3) (K (.bool false) w7) (∃ k19 : Nat, F7_2 (fun w10 => ∀ _g11 : Tm, Calls Tryd.prog 13 #[] w10 fun e14 w13 => ∃ b12, e14 = .returned (.bool b12) ∧ (K (.bool b12) w13)) (fun y4_14 w16 => ∀ _g17 : Tm, rdB y4_14 fun b18 => K (.bool b18) w16) k19 (.slice l2a l2n l2c) (.pointer p3) (.pointer p6) (.int .i64 0) w7)))
theorem F7_step (x0 : Value) (x1 : Value) (w : World) (K : Value → World → Prop) : (F7 x0 x1 w K) = rsh [(0, (.one (.int .u32))), (1, (.one .slc))] (args0 #[x0, x1]) (fun t => vc Tryd.prog (orcOf [([1, 0, 0, 1, 0, 1, 1, 1], F7_1O), ([0, 1, 0, 1, 1, 1], F7_2O)]) [] F7_code (retQ Tryd.prog Tryd.f7 K) t w) := by kernel_rfl
theorem F7_ok {x0 x1 : Value} {w : World} {K : Value → World → Prop} (h : F7 x0 x1 w K) : Calls Tryd.prog 7 #[x0, x1] w fun e w' => ∃ v, e = .returned v ∧ K v w' := by
  rw [F7_step] at h
  exact calls_of (c := F7_code) mixed Tryd.func7 rfl (nlt rfl) (vc_sound mixed (orcCons (π := [1, 0, 0, 1, 0, 1, 1, 1]) F7_1_ok (orcCons (π := [0, 1, 0, 1, 1, 1]) F7_2_ok (orcNil F7_code))) F7_code [] rfl F7_code_ok _ _ _ (rsh_out h))

/-! ropewalk/ropewalklaw03.SpansNobody -/
noncomputable def F8_code : Code := Tryd.f8.body.getD .skip
theorem F8_code_ok : okC Tryd.prog Tryd.f8.ntmps F8_code = true := by kernel_rfl
def F8_1C (K0 : World → Prop) (Kr : Value → World → Prop) : Post := fun o t w => match o with | .normal => False | .exit i => (match Nat.beq i 0 with | true => K0  w | false => False) | .ret => Kr (t 4) w
def F8_1B (R : Value → Value → Value → Value → Value → World → Prop) (K0 : World → Prop) (Kr : Value → World → Prop) (x0 : Value) (x1 : Value) (x13 : Value) (x14 : Value) (x15 : Value) (w : World) : Prop :=
  rdI .u32 x0 fun n1 => rdI .i64 x1 fun n2 => rdC x13 fun l3a l3n l3c => rdI .i64 x14 fun n4 => rdI .i64 x15 fun n5 => br (decide ((n5 : Int) < n4)) (ixS 1 l3a l3n n5 fun a6 => ldP a6 w fun p7 => Calls Tryd.prog 26 #[(.pointer p7), (.int .u32 n1)] w fun e11 w10 => ∃ b8 n9, e11 = .returned (.tuple #[(.bool b8), (.int .i64 n9)]) ∧ (br b8 (Kr (.bool false) w10) (br (n9 != 4) (Kr (.bool false) w10) (Calls Tryd.prog 28 #[(.pointer p7), (.int .u32 n1)] w10 fun e14 w13 => ∃ b12, e14 = .returned (.bool b12) ∧ (br b12 (Kr (.bool false) w13) (Calls Tryd.prog 21 #[(.pointer p7), (.int .u32 n1)] w13 fun e17 w16 => ∃ b15, e17 = .returned (.bool b15) ∧ (br b15 (Kr (.bool false) w16) (Calls Tryd.prog 10 #[(.pointer p7)] w16 fun e20 w19 => ∃ n18, e20 = .returned (.int .u32 n18) ∧ (br (n18 != 0) (Kr (.bool false) w19) (Calls Tryd.prog 20 #[(.pointer p7)] w19 fun e23 w22 => ∃ n21, e23 = .returned (.int .u32 n21) ∧ (br (n21 != 0) (Kr (.bool false) w22) (Calls Tryd.prog 34 #[(.pointer p7)] w22 fun e26 w25 => ∃ n24, e26 = .returned (.int .i64 n24) ∧ (Calls Tryd.prog 12 #[(.pointer p7)] w25 fun e29 w28 => ∃ l27a l27n l27c, e29 = .returned (.slice l27a l27n l27c) ∧ (Calls Tryd.prog 15 #[(.pointer p7), (.int .i64 n2)] w28 fun e32 w31 => ∃ l30a l30n l30c, e32 = .returned (.slice l30a l30n l30c) ∧ (Calls Tryd.prog 18 #[(.pointer p7), (.int .i64 n2)] w31 fun e35 w34 => ∃ l33a l33n l33c, e35 = .returned (.slice l33a l33n l33c) ∧ (br ((IntKind.wrap .i64 ((IntKind.wrap .i64 ((IntKind.wrap .i64 (n24 + (l27n : Int))) + (l30n : Int))) + (l33n : Int))) != 0) (Kr (.bool false) w34) (R (.int .u32 n1) (.int .i64 n2) (.slice l3a l3n l3c) (.int .i64 n4) (.int .i64 (IntKind.wrap .i64 (n5 + 1))) w34))))))))))))))))) (K0 w)
def F8_1 (K0 : World → Prop) (Kr : Value → World → Prop) : Nat → Value → Value → Value → Value → Value → World → Prop
  | 0 => fun _ _ _ _ _ _ => False
  | n + 1 => F8_1B (F8_1 K0 Kr n) K0 Kr
def F8_1O (Q : Post) (t : Tm) (w : World) : Prop := ∃ n, F8_1 (fun w => ∀ g, rsh [] (upds g []) fun t => Q (.exit 0) t w) (fun y4 w => ∀ g, rsh [(4, (.one .bool))] (upds g [(4, y4)]) fun t => Q .ret t w) n (t 0) (t 1) (t 13) (t 14) (t 15) w
theorem F8_1_step (K0 : World → Prop) (Kr : Value → World → Prop) (n : Nat) (t : Tm) (w : World) : (F8_1 K0 Kr (n + 1) (t 0) (t 1) (t 13) (t 14) (t 15) w) = rsh [(0, (.one (.int .u32))), (1, (.one (.int .i64))), (13, (.one .slc)), (14, (.one (.int .i64))), (15, (.one (.int .i64)))] t (fun t => vc Tryd.prog (orcOf []) [0, 0, 1, 0, 1, 1] (getAt F8_code [0, 0, 1, 0, 1, 1]) (fun o t w => match o with | .normal => F8_1 K0 Kr n (t 0) (t 1) (t 13) (t 14) (t 15) w | .exit i => F8_1C K0 Kr (.exit i) t w | .ret => F8_1C K0 Kr .ret t w) t w) := by kernel_rfl
theorem F8_1_ok : ∀ Q t w, F8_1O Q t w → W Tryd.prog Tryd.f8.ntmps (getAt F8_code [0, 1, 0, 1, 1]) Q t w := by
  intro Q t w ⟨n, h⟩
  refine (W_loop (P := Tryd.prog) (b := getAt F8_code [0, 0, 1, 0, 1, 1]) (Q := F8_1C (fun w => ∀ g, rsh [] (upds g []) fun t => Q (.exit 0) t w) (fun y4 w => ∀ g, rsh [(4, (.one .bool))] (upds g [(4, y4)]) fun t => Q .ret t w)) (G := fun n t w => F8_1 (fun w => ∀ g, rsh [] (upds g []) fun t => Q (.exit 0) t w) (fun y4 w => ∀ g, rsh [(4, (.one .bool))] (upds g [(4, y4)]) fun t => Q .ret t w) n (t 0) (t 1) (t 13) (t 14) (t 15) w) (fun _ _ h => h) (fun n t w h => ?_) n t w h).mono ?_
  · rw [F8_1_step] at h
    exact vc_sound mixed (orcNil F8_code) _ _ rfl (okC_at F8_code_ok [0, 0, 1, 0, 1, 1]) _ _ _ (rsh_out h)
  · intro o t w q
    cases o with
    | normal => exact q.elim
    | exit i =>
      unfold F8_1C at q
      simp only at q
      split at q
      · rename_i hi
        rw [nbeq] at hi
        subst hi
        exact out_ok [] q
      · exact q.elim
    | ret => exact out_ok [4] q
def F8 (x0 : Value) (x1 : Value) (w : World) (K : Value → World → Prop) : Prop :=
  rdI .u32 x0 fun n1 => rdI .i64 x1 fun n2 => alc (.cells #[(.map none), (.int .i64 0), (.int .u32 0)] 67) w fun b3 w4 => alc (.cells #[(.pointer none), (.pointer (some (Addr.mk b3 0 none)))] 25) w4 fun b5 w6 => ∃ k17 : Nat, F8_1 (fun w8 => ∀ _g9 : Tm, Calls Tryd.prog 13 #[] w8 fun e12 w11 => ∃ b10, e12 = .returned (.bool b10) ∧ (K (.bool b10) w11)) (fun y4_12 w14 => ∀ _g15 : Tm, rdB y4_12 fun b16 => K (.bool b16) w14) k17 (.int .u32 n1) (.int .i64 n2) (.slice (some (Addr.mk b5 0 none)) 2 2) (.int .i64 (2 : Int)) (.int .i64 0) w6
theorem F8_step (x0 : Value) (x1 : Value) (w : World) (K : Value → World → Prop) : (F8 x0 x1 w K) = rsh [(0, (.one (.int .u32))), (1, (.one (.int .i64)))] (args0 #[x0, x1]) (fun t => vc Tryd.prog (orcOf [([0, 1, 0, 1, 1], F8_1O)]) [] F8_code (retQ Tryd.prog Tryd.f8 K) t w) := by kernel_rfl
theorem F8_ok {x0 x1 : Value} {w : World} {K : Value → World → Prop} (h : F8 x0 x1 w K) : Calls Tryd.prog 8 #[x0, x1] w fun e w' => ∃ v, e = .returned v ∧ K v w' := by
  rw [F8_step] at h
  exact calls_of (c := F8_code) mixed Tryd.func8 rfl (nlt rfl) (vc_sound mixed (orcCons (π := [0, 1, 0, 1, 1]) F8_1_ok (orcNil F8_code)) F8_code [] rfl F8_code_ok _ _ _ (rsh_out h))

/-! ropewalk/ropewalklaw03.filled -/
noncomputable def F9_code : Code := Tryd.f9.body.getD .skip
theorem F9_code_ok : okC Tryd.prog Tryd.f9.ntmps F9_code = true := by kernel_rfl
def F9_1C (Kn : Value → Value → Value → Value → World → Prop) (Kr : Value → Value → World → Prop) : Post := fun o t w => match o with | .normal => Kn (t 0) (t 1) (t 6) (t 7) w | .exit i => (False) | .ret => Kr (t 4) (t 5) w
def F9_1 (Kn : Value → Value → Value → Value → World → Prop) (Kr : Value → Value → World → Prop) (x0 : Value) (x1 : Value) (x6 : Value) (x7 : Value) (w : World) : Prop :=
  rdI .u32 x0 fun n1 => rdC x1 fun l2a l2n l2c => rdP x6 fun p3 => rdI .i64 x7 fun n4 => ixS 1 l2a l2n n4 fun a5 => ldI .u16 a5 w fun n6 => Calls Tryd.prog 25 #[(.int .u32 n1), (.int .u32 (IntKind.wrap .u32 (n6)))] w fun e9 w8 => ∃ n7, e9 = .returned (.int .u32 n7) ∧ (Calls Tryd.prog 26 #[(.pointer p3), (.int .u32 n7)] w8 fun e13 w12 => ∃ b10 n11, e13 = .returned (.tuple #[(.bool b10), (.int .i64 n11)]) ∧ (br (n11 != 0) (Kr (.pointer p3) (.bool false) w12) (Kn (.int .u32 n1) (.slice l2a l2n l2c) (.pointer p3) (.int .i64 (IntKind.wrap .i64 (n4 + 1))) w12)))
def F9_1O (Q : Post) (t : Tm) (w : World) : Prop := F9_1 (fun y0 y1 y6 y7 w => ∀ g, rsh [(0, (.one (.int .u32))), (1, (.one .slc)), (6, (.one .ptr)), (7, (.one (.int .i64)))] (upds g [(0, y0), (1, y1), (6, y6), (7, y7)]) fun t => Q .normal t w) (fun y4 y5 w => ∀ g, rsh [(4, (.one .ptr)), (5, (.one .bool))] (upds g [(4, y4), (5, y5)]) fun t => Q .ret t w) (t 0) (t 1) (t 6) (t 7) w
theorem F9_1_step (Kn : Value → Value → Value → Value → World → Prop) (Kr : Value → Value → World → Prop) (t : Tm) (w : World) : (F9_1 Kn Kr (t 0) (t 1) (t 6) (t 7) w) = rsh [(0, (.one (.int .u32))), (1, (.one .slc)), (6, (.one .ptr)), (7, (.one (.int .i64)))] t (fun t => vc Tryd.prog (orcOf []) [1, 0, 0, 1, 0, 1, 1, 1] (getAt F9_code [1, 0, 0, 1, 0, 1, 1, 1]) (F9_1C Kn Kr) t w) := by kernel_rfl
theorem F9_1_ok : ∀ Q t w, F9_1O Q t w → W Tryd.prog Tryd.f9.ntmps (getAt F9_code [1, 0, 0, 1, 0, 1, 1, 1]) Q t w := by
  intro Q t w h
  unfold F9_1O at h
  rw [F9_1_step] at h
  refine (vc_sound mixed (orcNil F9_code) _ _ rfl (okC_at F9_code_ok [1, 0, 0, 1, 0, 1, 1, 1]) _ _ _ (rsh_out h)).mono ?_
  intro o t w q
  cases o with
  | normal => exact out_ok [0, 1, 6, 7] q
  | exit i => exact q.elim
  | ret => exact out_ok [4, 5] q
def F9_2C (K0 : Value → World → Prop) (Kr : Value → Value → World → Prop) : Post := fun o t w => match o with | .normal => False | .exit i => (match Nat.beq i 0 with | true => K0 (t 6) w | false => False) | .ret => Kr (t 4) (t 5) w
def F9_2B (R : Value → Value → Value → Value → World → Prop) (K0 : Value → World → Prop) (Kr : Value → Value → World → Prop) (x0 : Value) (x1 : Value) (x6 : Value) (x7 : Value) (w : World) : Prop :=
  rdI .u32 x0 fun n1 => rdC x1 fun l2a l2n l2c => rdP x6 fun p3 => rdI .i64 x7 fun n4 => br (decide ((n4 : Int) < (l2n : Int))) (br (decide ((n4 : Int) < 300)) (F9_1 (fun y0_4 y1_4 y6_4 y7_4 w6 => ∀ _g7 : Tm, rdI .u32 y0_4 fun n8 => rdC y1_4 fun l9a l9n l9c => rdP y6_4 fun p10 => rdI .i64 y7_4 fun n11 => R (.int .u32 n8) (.slice l9a l9n l9c) (.pointer p10) (.int .i64 n11) w6) (fun y4_11 y5_11 w13 => ∀ _g14 : Tm, rdP y4_11 fun p15 => rdB y5_11 fun b16 => Kr (.pointer p15) (.bool b16) w13) (.int .u32 n1) (.slice l2a l2n l2c) (.pointer p3) (.int .i64 n4) w) (K0 (.pointer p3) w)) (K0 (.pointer p3) w)
def F9_2 (K0 : Value → World → Prop) (Kr : Value → Value → World → Prop) : Nat → Value → Value → Value → Value → World → Prop
  | 0 => fun _ _ _ _ _ => False
  | n + 1 => F9_2B (F9_2 K0 Kr n) K0 Kr
def F9_2O (Q : Post) (t : Tm) (w : World) : Prop := ∃ n, F9_2 (fun y6 w => ∀ g, rsh [(6, (.one .ptr))] (upds g [(6, y6)]) fun t => Q (.exit 0) t w) (fun y4 y5 w => ∀ g, rsh [(4, (.one .ptr)), (5, (.one .bool))] (upds g [(4, y4), (5, y5)]) fun t => Q .ret t w) n (t 0) (t 1) (t 6) (t 7) w
theorem F9_2_step (K0 : Value → World → Prop) (Kr : Value → Value → World → Prop) (n : Nat) (t : Tm) (w : World) : (F9_2 K0 Kr (n + 1) (t 0) (t 1) (t 6) (t 7) w) = rsh [(0, (.one (.int .u32))), (1, (.one .slc)), (6, (.one .ptr)), (7, (.one (.int .i64)))] t (fun t => vc Tryd.prog (orcOf [([1, 0, 0, 1, 0, 1, 1, 1], F9_1O)]) [0, 0, 1, 0, 1, 1, 1] (getAt F9_code [0, 0, 1, 0, 1, 1, 1]) (fun o t w => match o with | .normal => F9_2 K0 Kr n (t 0) (t 1) (t 6) (t 7) w | .exit i => F9_2C K0 Kr (.exit i) t w | .ret => F9_2C K0 Kr .ret t w) t w) := by kernel_rfl
theorem F9_2_ok : ∀ Q t w, F9_2O Q t w → W Tryd.prog Tryd.f9.ntmps (getAt F9_code [0, 1, 0, 1, 1, 1]) Q t w := by
  intro Q t w ⟨n, h⟩
  refine (W_loop (P := Tryd.prog) (b := getAt F9_code [0, 0, 1, 0, 1, 1, 1]) (Q := F9_2C (fun y6 w => ∀ g, rsh [(6, (.one .ptr))] (upds g [(6, y6)]) fun t => Q (.exit 0) t w) (fun y4 y5 w => ∀ g, rsh [(4, (.one .ptr)), (5, (.one .bool))] (upds g [(4, y4), (5, y5)]) fun t => Q .ret t w)) (G := fun n t w => F9_2 (fun y6 w => ∀ g, rsh [(6, (.one .ptr))] (upds g [(6, y6)]) fun t => Q (.exit 0) t w) (fun y4 y5 w => ∀ g, rsh [(4, (.one .ptr)), (5, (.one .bool))] (upds g [(4, y4), (5, y5)]) fun t => Q .ret t w) n (t 0) (t 1) (t 6) (t 7) w) (fun _ _ h => h) (fun n t w h => ?_) n t w h).mono ?_
  · rw [F9_2_step] at h
    exact vc_sound mixed (orcCons (π := [1, 0, 0, 1, 0, 1, 1, 1]) F9_1_ok (orcNil F9_code)) _ _ rfl (okC_at F9_code_ok [0, 0, 1, 0, 1, 1, 1]) _ _ _ (rsh_out h)
  · intro o t w q
    cases o with
    | normal => exact q.elim
    | exit i =>
      unfold F9_2C at q
      simp only at q
      split at q
      · rename_i hi
        rw [nbeq] at hi
        subst hi
        exact out_ok [6] q
      · exact q.elim
    | ret => exact out_ok [4, 5] q
def F9 (x0 : Value) (x1 : Value) (w : World) (K : Value → World → Prop) : Prop :=
  rdI .u32 x0 fun n1 => rdC x1 fun l2a l2n l2c => Calls Tryd.prog 23 #[(.int .u32 n1)] w fun e5 w4 => ∃ p3, e5 = .returned (.pointer p3) ∧ (br (Option.isNone p3) (K (.tuple #[(.pointer none), (.bool false)]) w4) (∃ k15 : Nat, F9_2 (fun y6_5 w7 => ∀ _g8 : Tm, rdP y6_5 fun p9 => K (.tuple #[(.pointer p9), (.bool true)]) w7) (fun y4_9 y5_9 w11 => ∀ _g12 : Tm, rdP y4_9 fun p13 => rdB y5_9 fun b14 => K (.tuple #[(.pointer p13), (.bool b14)]) w11) k15 (.int .u32 n1) (.slice l2a l2n l2c) (.pointer p3) (.int .i64 0) w4))
theorem F9_step (x0 : Value) (x1 : Value) (w : World) (K : Value → World → Prop) : (F9 x0 x1 w K) = rsh [(0, (.one (.int .u32))), (1, (.one .slc))] (args0 #[x0, x1]) (fun t => vc Tryd.prog (orcOf [([1, 0, 0, 1, 0, 1, 1, 1], F9_1O), ([0, 1, 0, 1, 1, 1], F9_2O)]) [] F9_code (retQ Tryd.prog Tryd.f9 K) t w) := by kernel_rfl
theorem F9_ok {x0 x1 : Value} {w : World} {K : Value → World → Prop} (h : F9 x0 x1 w K) : Calls Tryd.prog 9 #[x0, x1] w fun e w' => ∃ v, e = .returned v ∧ K v w' := by
  rw [F9_step] at h
  exact calls_of (c := F9_code) mixed Tryd.func9 rfl (nlt rfl) (vc_sound mixed (orcCons (π := [1, 0, 0, 1, 0, 1, 1, 1]) F9_1_ok (orcCons (π := [0, 1, 0, 1, 1, 1]) F9_2_ok (orcNil F9_code))) F9_code [] rfl F9_code_ok _ _ _ (rsh_out h))

/-! (*ropewalk/spans.Set).Cum -/
noncomputable def F10_code : Code := Tryd.f10.body.getD .skip
theorem F10_code_ok : okC Tryd.prog Tryd.f10.ntmps F10_code = true := by kernel_rfl
def F10 (x0 : Value) (w : World) (K : Value → World → Prop) : Prop :=
  rdP x0 fun p1 => Calls Tryd.prog 35 #[(.pointer p1)] w fun e4 w3 => ∃ b2, e4 = .returned (.bool b2) ∧ (br (!b2) (K (.int .u32 0) w3) (nn p1 fun a5 => ldI .u32 (a5.add 2) w3 fun n6 => K (.int .u32 n6) w3))
theorem F10_step (x0 : Value) (w : World) (K : Value → World → Prop) : (F10 x0 w K) = rsh [(0, (.one .ptr))] (args0 #[x0]) (fun t => vc Tryd.prog (orcOf []) [] F10_code (retQ Tryd.prog Tryd.f10 K) t w) := by kernel_rfl
theorem F10_ok {x0 : Value} {w : World} {K : Value → World → Prop} (h : F10 x0 w K) : Calls Tryd.prog 10 #[x0] w fun e w' => ∃ v, e = .returned v ∧ K v w' := by
  rw [F10_step] at h
  exact calls_of (c := F10_code) mixed Tryd.func10 rfl (nlt rfl) (vc_sound mixed (orcNil F10_code) F10_code [] rfl F10_code_ok _ _ _ (rsh_out h))

/-! ropewalk/ropewalkref03.Numbers -/
noncomputable def F11_code : Code := Tryd.f11.body.getD .skip
theorem F11_code_ok : okC Tryd.prog Tryd.f11.ntmps F11_code = true := by kernel_rfl
def F11_1C (K0 : World → Prop) (Kr : Value → World → Prop) : Post := fun o t w => match o with | .normal => False | .exit i => (match Nat.beq i 0 with | true => K0  w | false => False) | .ret => Kr (t 4) w
def F11_1B (R : Value → Value → Value → World → Prop) (K0 : World → Prop) (Kr : Value → World → Prop) (x0 : Value) (x1 : Value) (x5 : Value) (w : World) : Prop :=
  rdC x0 fun l1a l1n l1c => rdC x1 fun l2a l2n l2c => rdI .i64 x5 fun n3 => br (decide ((n3 : Int) < (l1n : Int))) (drw w fun w4 => ixS 1 l1a l1n n3 fun a5 => ldI .u32 a5 w4 fun n6 => ixS 1 l2a l2n n3 fun a7 => ldI .u32 a7 w4 fun n8 => br (n6 != n8) (Kr (.bool false) w4) (R (.slice l1a l1n l1c) (.slice l2a l2n l2c) (.int .i64 (IntKind.wrap .i64 (n3 + 1))) w4)) (K0 w)
def F11_1 (K0 : World → Prop) (Kr : Value → World → Prop) : Nat → Value → Value → Value → World → Prop
  | 0 => fun _ _ _ _ => False
  | n + 1 => F11_1B (F11_1 K0 Kr n) K0 Kr
def F11_1O (Q : Post) (t : Tm) (w : World) : Prop := ∃ n, F11_1 (fun w => ∀ g, rsh [] (upds g []) fun t => Q (.exit 0) t w) (fun y4 w => ∀ g, rsh [(4, (.one .bool))] (upds g [(4, y4)]) fun t => Q .ret t w) n (t 0) (t 1) (t 5) w
theorem F11_1_step (K0 : World → Prop) (Kr : Value → World → Prop) (n : Nat) (t : Tm) (w : World) : (F11_1 K0 Kr (n + 1) (t 0) (t 1) (t 5) w) = rsh [(0, (.one .slc)), (1, (.one .slc)), (5, (.one (.int .i64)))] t (fun t => vc Tryd.prog (orcOf []) [0, 0, 1, 0, 1, 1] (getAt F11_code [0, 0, 1, 0, 1, 1]) (fun o t w => match o with | .normal => F11_1 K0 Kr n (t 0) (t 1) (t 5) w | .exit i => F11_1C K0 Kr (.exit i) t w | .ret => F11_1C K0 Kr .ret t w) t w) := by kernel_rfl
theorem F11_1_ok : ∀ Q t w, F11_1O Q t w → W Tryd.prog Tryd.f11.ntmps (getAt F11_code [0, 1, 0, 1, 1]) Q t w := by
  intro Q t w ⟨n, h⟩
  refine (W_loop (P := Tryd.prog) (b := getAt F11_code [0, 0, 1, 0, 1, 1]) (Q := F11_1C (fun w => ∀ g, rsh [] (upds g []) fun t => Q (.exit 0) t w) (fun y4 w => ∀ g, rsh [(4, (.one .bool))] (upds g [(4, y4)]) fun t => Q .ret t w)) (G := fun n t w => F11_1 (fun w => ∀ g, rsh [] (upds g []) fun t => Q (.exit 0) t w) (fun y4 w => ∀ g, rsh [(4, (.one .bool))] (upds g [(4, y4)]) fun t => Q .ret t w) n (t 0) (t 1) (t 5) w) (fun _ _ h => h) (fun n t w h => ?_) n t w h).mono ?_
  · rw [F11_1_step] at h
    exact vc_sound mixed (orcNil F11_code) _ _ rfl (okC_at F11_code_ok [0, 0, 1, 0, 1, 1]) _ _ _ (rsh_out h)
  · intro o t w q
    cases o with
    | normal => exact q.elim
    | exit i =>
      unfold F11_1C at q
      simp only at q
      split at q
      · rename_i hi
        rw [nbeq] at hi
        subst hi
        exact out_ok [] q
      · exact q.elim
    | ret => exact out_ok [4] q
def F11 (x0 : Value) (x1 : Value) (w : World) (K : Value → World → Prop) : Prop :=
  rdC x0 fun l1a l1n l1c => rdC x1 fun l2a l2n l2c => br ((l1n : Int) != (l2n : Int)) (K (.bool false) w) (∃ k10 : Nat, F11_1 (fun w4 => ∀ _g5 : Tm, K (.bool true) w4) (fun y4_5 w7 => ∀ _g8 : Tm, rdB y4_5 fun b9 => K (.bool b9) w7) k10 (.slice l1a l1n l1c) (.slice l2a l2n l2c) (.int .i64 0) w)
theorem F11_step (x0 : Value) (x1 : Value) (w : World) (K : Value → World → Prop) : (F11 x0 x1 w K) = rsh [(0, (.one .slc)), (1, (.one .slc))] (args0 #[x0, x1]) (fun t => vc Tryd.prog (orcOf [([0, 1, 0, 1, 1], F11_1O)]) [] F11_code (retQ Tryd.prog Tryd.f11 K) t w) := by kernel_rfl
theorem F11_ok {x0 x1 : Value} {w : World} {K : Value → World → Prop} (h : F11 x0 x1 w K) : Calls Tryd.prog 11 #[x0, x1] w fun e w' => ∃ v, e = .returned v ∧ K v w' := by
  rw [F11_step] at h
  exact calls_of (c := F11_code) mixed Tryd.func11 rfl (nlt rfl) (vc_sound mixed (orcCons (π := [0, 1, 0, 1, 1]) F11_1_ok (orcNil F11_code)) F11_code [] rfl F11_code_ok _ _ _ (rsh_out h))

/-! (*ropewalk/spans.Set).All -/
noncomputable def F12_code : Code := Tryd.f12.body.getD .skip
theorem F12_code_ok : okC Tryd.prog Tryd.f12.ntmps F12_code = true := by kernel_rfl
def F12 (x0 : Value) (w : World) (K : Value → World → Prop) : Prop :=
  rdP x0 fun p1 => alc (.cells #[(.pointer p1)] 25) w fun b2 w3 => ldP (Addr.mk b2 0 none) w3 fun p4 => Calls Tryd.prog 35 #[(.pointer p4)] w3 fun e7 w6 => ∃ b5, e7 = .returned (.bool b5) ∧ (br (!b5) (K (.slice none 0 0) w6) (alc (.cells #[(.slice none 0 0)] 30) w6 fun b8 w9 => ldP (Addr.mk b2 0 none) w9 fun p10 => nn p10 fun a11 => Calls Tryd.prog 36 #[(.pointer (some (a11.add 0))), (.func (.func 37) #[] #[(.pointer (some (Addr.mk b8 0 none))), (.pointer (some (Addr.mk b2 0 none)))])] w9 fun e13 w12 => e13 = .returned (.tuple #[]) ∧ (ldC (Addr.mk b8 0 none) w12 fun l14a l14n l14c => K (.slice l14a l14n l14c) w12)))
theorem F12_step (x0 : Value) (w : World) (K : Value → World → Prop) : (F12 x0 w K) = rsh [(0, (.one .ptr))] (args0 #[x0]) (fun t => vc Tryd.prog (orcOf []) [] F12_code (retQ Tryd.prog Tryd.f12 K) t w) := by kernel_rfl
theorem F12_ok {x0 : Value} {w : World} {K : Value → World → Prop} (h : F12 x0 w K) : Calls Tryd.prog 12 #[x0] w fun e w' => ∃ v, e = .returned v ∧ K v w' := by
  rw [F12_step] at h
  exact calls_of (c := F12_code) mixed Tryd.func12 rfl (nlt rfl) (vc_sound mixed (orcNil F12_code) F12_code [] rfl F12_code_ok _ _ _ (rsh_out h))

/-! ropewalk/ropewalklaw03.alive -/
noncomputable def F13_code : Code := Tryd.f13.body.getD .skip
theorem F13_code_ok : okC Tryd.prog Tryd.f13.ntmps F13_code = true := by kernel_rfl
def F13 (w : World) (K : Value → World → Prop) : Prop :=
  Calls Tryd.prog 23 #[(.int .u32 10)] w fun e3 w2 => ∃ p1, e3 = .returned (.pointer p1) ∧ (br (Option.isNone p1) (K (.bool false) w2) (Calls Tryd.prog 26 #[(.pointer p1), (.int .u32 12)] w2 fun e7 w6 => ∃ b4 n5, e7 = .returned (.tuple #[(.bool b4), (.int .i64 n5)]) ∧ (Calls Tryd.prog 26 #[(.pointer p1), (.int .u32 13)] w6 fun e11 w10 => ∃ b8 n9, e11 = .returned (.tuple #[(.bool b8), (.int .i64 n9)]) ∧ (Calls Tryd.prog 15 #[(.pointer p1), (.int .i64 5)] w10 fun e14 w13 => ∃ l12a l12n l12c, e14 = .returned (.slice l12a l12n l12c) ∧ (br b4 (br b8 (br (n5 == 0) (br (n9 == 0) (br ((l12n : Int) == 1) (ixS 2 l12a l12n 0 fun a15 => ldI .u16 (a15.add 0) w13 fun n16 => ldI .u16 (a15.add 1) w13 fun n17 => ∃ b18 w19, Sem.run Tryd.prog (binF Tryd.prog .eql 74 (.tmp 42) (.tmp 43) (.agg #[(.int .u16 n16), (.int .u16 n17)]) (.agg #[(.int .u16 2), (.int .u16 3)])) w13 = .ok (.bool b18) w19 ∧ (br b18 (Calls Tryd.prog 10 #[(.pointer p1)] w19 fun e22 w21 => ∃ n20, e22 = .returned (.int .u32 n20) ∧ (K (.bool (n20 == 10)) w21)) (K (.bool false) w19))) (K (.bool false) w13)) (K (.bool false) w13)) (K (.bool false) w13)) (K (.bool false) w13)) (K (.bool false) w13))))))
theorem F13_step (w : World) (K : Value → World → Prop) : (F13  w K) = rsh [] (args0 #[]) (fun t => vc Tryd.prog (orcOf []) [] F13_code (retQ Tryd.prog Tryd.f13 K) t w) := by kernel_rfl
theorem F13_ok {w : World} {K : Value → World → Prop} (h : F13 w K) : Calls Tryd.prog 13 #[] w fun e w' => ∃ v, e = .returned v ∧ K v w' := by
  rw [F13_step] at h
  exact calls_of (c := F13_code) mixed Tryd.func13 rfl (nlt rfl) (vc_sound mixed (orcNil F13_code) F13_code [] rfl F13_code_ok _ _ _ (rsh_out h))

/-! ropewalk/spans.From -/
noncomputable def F14_code : Code := Tryd.f14.body.getD .skip
theorem F14_code_ok : okC Tryd.prog Tryd.f14.ntmps F14_code = true := by kernel_rfl
def F14_1C (K4 : Value → Value → Value → Value → World → Prop) : Post := fun o t w => match o with | .normal => False | .exit i => (match Nat.beq i 4 with | true => K4 (t 8) (t 34) (t 35) (t 36) w | false => False) | .ret => False
def F14_1B (R : Value → Value → Value → Value → Value → Value → World → Prop) (K4 : Value → Value → Value → Value → World → Prop) (x8 : Value) (x10 : Value) (x11 : Value) (x34 : Value) (x35 : Value) (x36 : Value) (w : World) : Prop :=
  rdP x8 fun p1 => rdA x10 fun a2 => rdI .i64 x11 fun n3 => rdC x34 fun l4a l4n l4c => rdI .i64 x35 fun n5 => rdI .i64 x36 fun n6 => ldI .u16 (a2.add 1) w fun n7 => br (decide ((n3 : Int) ≤ (IntKind.wrap .i64 (n7)))) (nn p1 fun a8 => Calls Tryd.prog 38 #[(.pointer (some (a8.add 0))), (.int .i64 n3)] w fun e11 w10 => ∃ b9, e11 = .returned (.bool b9) ∧ (R (.pointer p1) (.pointer (some a2)) (.int .i64 (IntKind.wrap .i64 (n3 + 1))) (.slice l4a l4n l4c) (.int .i64 n5) (.int .i64 n6) w10)) (K4 (.pointer p1) (.slice l4a l4n l4c) (.int .i64 n5) (.int .i64 n6) w)
def F14_1 (K4 : Value → Value → Value → Value → World → Prop) : Nat → Value → Value → Value → Value → Value → Value → World → Prop
  | 0 => fun _ _ _ _ _ _ _ => False
  | n + 1 => F14_1B (F14_1 K4 n) K4
def F14_1O (Q : Post) (t : Tm) (w : World) : Prop := ∃ n, F14_1 (fun y8 y34 y35 y36 w => ∀ g, rsh [(8, (.one .ptr)), (34, (.one .slc)), (35, (.one (.int .i64))), (36, (.one (.int .i64)))] (upds g [(8, y8), (34, y34), (35, y35), (36, y36)]) fun t => Q (.exit 4) t w) n (t 8) (t 10) (t 11) (t 34) (t 35) (t 36) w
theorem F14_1_step (K4 : Value → Value → Value → Value → World → Prop) (n : Nat) (t : Tm) (w : World) : (F14_1 K4 (n + 1) (t 8) (t 10) (t 11) (t 34) (t 35) (t 36) w) = rsh [(8, (.one .ptr)), (10, (.one .adr)), (11, (.one (.int .i64))), (34, (.one .slc)), (35, (.one (.int .i64))), (36, (.one (.int .i64)))] t (fun t => vc Tryd.prog (orcOf []) [0, 0, 1, 1, 0, 0, 1, 1, 0, 0, 1, 0, 1, 1, 1, 1] (getAt F14_code [0, 0, 1, 1, 0, 0, 1, 1, 0, 0, 1, 0, 1, 1, 1, 1]) (fun o t w => match o with | .normal => F14_1 K4 n (t 8) (t 10) (t 11) (t 34) (t 35) (t 36) w | .exit i => F14_1C K4 (.exit i) t w | .ret => F14_1C K4 .ret t w) t w) := by kernel_rfl
theorem F14_1_ok : ∀ Q t w, F14_1O Q t w → W Tryd.prog Tryd.f14.ntmps (getAt F14_code [0, 1, 1, 0, 0, 1, 1, 0, 0, 1, 0, 1, 1, 1, 1]) Q t w := by
  intro Q t w ⟨n, h⟩
  refine (W_loop (P := Tryd.prog) (b := getAt F14_code [0, 0, 1, 1, 0, 0, 1, 1, 0, 0, 1, 0, 1, 1, 1, 1]) (Q := F14_1C (fun y8 y34 y35 y36 w => ∀ g, rsh [(8, (.one .ptr)), (34, (.one .slc)), (35, (.one (.int .i64))), (36, (.one (.int .i64)))] (upds g [(8, y8), (34, y34), (35, y35), (36, y36)]) fun t => Q (.exit 4) t w)) (G := fun n t w => F14_1 (fun y8 y34 y35 y36 w => ∀ g, rsh [(8, (.one .ptr)), (34, (.one .slc)), (35, (.one (.int .i64))), (36, (.one (.int .i64)))] (upds g [(8, y8), (34, y34), (35, y35), (36, y36)]) fun t => Q (.exit 4) t w) n (t 8) (t 10) (t 11) (t 34) (t 35) (t 36) w) (fun _ _ h => h) (fun n t w h => ?_) n t w h).mono ?_
  · rw [F14_1_step] at h
    exact vc_sound mixed (orcNil F14_code) _ _ rfl (okC_at F14_code_ok [0, 0, 1, 1, 0, 0, 1, 1, 0, 0, 1, 0, 1, 1, 1, 1]) _ _ _ (rsh_out h)
  · intro o t w q
    cases o with
    | normal => exact q.elim
    | exit i =>
      unfold F14_1C at q
      simp only at q
      split at q
      · rename_i hi
        rw [nbeq] at hi
        subst hi
        exact out_ok [8, 34, 35, 36] q
      · exact q.elim
    | ret => exact q.elim
def F14_2C (K2 : Value → World → Prop) : Post := fun o t w => match o with | .normal => False | .exit i => (match Nat.beq i 2 with | true => K2 (t 8) w | false => False) | .ret => False
def F14_2B (R : Value → Value → Value → Value → World → Prop) (K2 : Value → World → Prop) (x8 : Value) (x34 : Value) (x35 : Value) (x36 : Value) (w : World) : Prop :=
  rdP x8 fun p1 => rdC x34 fun l2a l2n l2c => rdI .i64 x35 fun n3 => rdI .i64 x36 fun n4 => br (decide ((n4 : Int) < n3)) (ixS 2 l2a l2n n4 fun a5 => ldI .u16 (a5.add 0) w fun n6 => ldI .u16 (a5.add 1) w fun n7 => alc (.cells #[(.int .u16 0), (.int .u16 0)] 74) w fun b8 w9 => stc ((Addr.mk b8 0 none).add 0) (.int .u16 n6) w9 fun w10 => stc ((Addr.mk b8 0 none).add 1) (.int .u16 n7) w10 fun w11 => ldI .u16 ((Addr.mk b8 0 none).add 0) w11 fun n12 => ∃ k20 : Nat, F14_1 (fun y8_12 y34_12 y35_12 y36_12 w14 => ∀ _g15 : Tm, rdP y8_12 fun p16 => rdC y34_12 fun l17a l17n l17c => rdI .i64 y35_12 fun n18 => rdI .i64 y36_12 fun n19 => R (.pointer p16) (.slice l17a l17n l17c) (.int .i64 n18) (.int .i64 (IntKind.wrap .i64 (n19 + 1))) w14) k20 (.pointer p1) (.pointer (some (Addr.mk b8 0 none))) (.int .i64 (IntKind.wrap .i64 (n12))) (.slice l2a l2n l2c) (.int .i64 n3) (.int .i64 n4) w11) (K2 (.pointer p1) w)
def F14_2 (K2 : Value → World → Prop) : Nat → Value → Value → Value → Value → World → Prop
  | 0 => fun _ _ _ _ _ => False
  | n + 1 => F14_2B (F14_2 K2 n) K2
def F14_2O (Q : Post) (t : Tm) (w : World) : Prop := ∃ n, F14_2 (fun y8 w => ∀ g, rsh [(8, (.one .ptr))] (upds g [(8, y8)]) fun t => Q (.exit 2) t w) n (t 8) (t 34) (t 35) (t 36) w
theorem F14_2_step (K2 : Value → World → Prop) (n : Nat) (t : Tm) (w : World) : (F14_2 K2 (n + 1) (t 8) (t 34) (t 35) (t 36) w) = rsh [(8, (.one .ptr)), (34, (.one .slc)), (35, (.one (.int .i64))), (36, (.one (.int .i64)))] t (fun t => vc Tryd.prog (orcOf [([0, 1, 1, 0, 0, 1, 1, 0, 0, 1, 0, 1, 1, 1, 1], F14_1O)]) [0, 0, 1, 0, 1, 1, 1, 1] (getAt F14_code [0, 0, 1, 0, 1, 1, 1, 1]) (fun o t w => match o with | .normal => F14_2 K2 n (t 8) (t 34) (t 35) (t 36) w | .exit i => F14_2C K2 (.exit i) t w | .ret => F14_2C K2 .ret t w) t w) := by kernel_rfl
theorem F14_2_ok : ∀ Q t w, F14_2O Q t w → W Tryd.prog Tryd.f14.ntmps (getAt F14_code [0, 1, 0, 1, 1, 1, 1]) Q t w := by
  intro Q t w ⟨n, h⟩
  refine (W_loop (P := Tryd.prog) (b := getAt F14_code [0, 0, 1, 0, 1, 1, 1, 1]) (Q := F14_2C (fun y8 w => ∀ g, rsh [(8, (.one .ptr))] (upds g [(8, y8)]) fun t => Q (.exit 2) t w)) (G := fun n t w => F14_2 (fun y8 w => ∀ g, rsh [(8, (.one .ptr))] (upds g [(8, y8)]) fun t => Q (.exit 2) t w) n (t 8) (t 34) (t 35) (t 36) w) (fun _ _ h => h) (fun n t w h => ?_) n t w h).mono ?_
  · rw [F14_2_step] at h
    exact vc_sound mixed (orcCons (π := [0, 1, 1, 0, 0, 1, 1, 0, 0, 1, 0, 1, 1, 1, 1]) F14_1_ok (orcNil F14_code)) _ _ rfl (okC_at F14_code_ok [0, 0, 1, 0, 1, 1, 1, 1]) _ _ _ (rsh_out h)
  · intro o t w q
    cases o with
    | normal => exact q.elim
    | exit i =>
      unfold F14_2C at q
      simp only at q
      split at q
      · rename_i hi
        rw [nbeq] at hi
        subst hi
        exact out_ok [8] q
      · exact q.elim
    | ret => exact q.elim
def F14_3C (K0 : Value → Value → World → Prop) (Kr : Value → Value → World → Prop) : Post := fun o t w => match o with | .normal => False | .exit i => (match Nat.beq i 0 with | true => K0 (t 0) (t 1) w | false => False) | .ret => Kr (t 4) (t 5) w
def F14_3B (R : Value → Value → Value → Value → Value → World → Prop) (K0 : Value → Value → World → Prop) (Kr : Value → Value → World → Prop) (x0 : Value) (x1 : Value) (x15 : Value) (x16 : Value) (x17 : Value) (w : World) : Prop :=
  rdI .u32 x0 fun n1 => rdC x1 fun l2a l2n l2c => rdC x15 fun l3a l3n l3c => rdI .i64 x16 fun n4 => rdI .i64 x17 fun n5 => br (decide ((n5 : Int) < n4)) (ixS 2 l3a l3n n5 fun a6 => ldI .u16 (a6.add 0) w fun n7 => ldI .u16 (a6.add 1) w fun n8 => alc (.cells #[(.int .u16 0), (.int .u16 0)] 74) w fun b9 w10 => stc ((Addr.mk b9 0 none).add 0) (.int .u16 n7) w10 fun w11 => stc ((Addr.mk b9 0 none).add 1) (.int .u16 n8) w11 fun w12 => ldI .u16 ((Addr.mk b9 0 none).add 0) w12 fun n13 => br (decide ((n13 : Int) < 2)) (Kr (.pointer none) (.int .i64 30) w12) (ldI .u16 ((Addr.mk b9 0 none).add 1) w12 fun n14 => ldI .u16 ((Addr.mk b9 0 none).add 0) w12 fun n15 => br (decide ((n14 : Int) < n15)) (Kr (.pointer none) (.int .i64 30) w12) (R (.int .u32 n1) (.slice l2a l2n l2c) (.slice l3a l3n l3c) (.int .i64 n4) (.int .i64 (IntKind.wrap .i64 (n5 + 1))) w12))) (K0 (.int .u32 n1) (.slice l2a l2n l2c) w)
def F14_3 (K0 : Value → Value → World → Prop) (Kr : Value → Value → World → Prop) : Nat → Value → Value → Value → Value → Value → World → Prop
  | 0 => fun _ _ _ _ _ _ => False
  | n + 1 => F14_3B (F14_3 K0 Kr n) K0 Kr
def F14_3O (Q : Post) (t : Tm) (w : World) : Prop := ∃ n, F14_3 (fun y0 y1 w => ∀ g, rsh [(0, (.one (.int .u32))), (1, (.one .slc))] (upds g [(0, y0), (1, y1)]) fun t => Q (.exit 0) t w) (fun y4 y5 w => ∀ g, rsh [(4, (.one .ptr)), (5, (.one (.int .i64)))] (upds g [(4, y4), (5, y5)]) fun t => Q .ret t w) n (t 0) (t 1) (t 15) (t 16) (t 17) w
theorem F14_3_step (K0 : Value → Value → World → Prop) (Kr : Value → Value → World → Prop) (n : Nat) (t : Tm) (w : World) : (F14_3 K0 Kr (n + 1) (t 0) (t 1) (t 15) (t 16) (t 17) w) = rsh [(0, (.one (.int .u32))), (1, (.one .slc)), (15, (.one .slc)), (16, (.one (.int .i64))), (17, (.one (.int .i64)))] t (fun t => vc Tryd.prog (orcOf []) [0, 0, 1, 0, 1, 1] (getAt F14_code [0, 0, 1, 0, 1, 1]) (fun o t w => match o with | .normal => F14_3 K0 Kr n (t 0) (t 1) (t 15) (t 16) (t 17) w | .exit i => F14_3C K0 Kr (.exit i) t w | .ret => F14_3C K0 Kr .ret t w) t w) := by kernel_rfl
theorem F14_3_ok : ∀ Q t w, F14_3O Q t w → W Tryd.prog Tryd.f14.ntmps (getAt F14_code [0, 1, 0, 1, 1]) Q t w := by
  intro Q t w ⟨n, h⟩
  refine (W_loop (P := Tryd.prog) (b := getAt F14_code [0, 0, 1, 0, 1, 1]) (Q := F14_3C (fun y0 y1 w => ∀ g, rsh [(0, (.one (.int .u32))), (1, (.one .slc))] (upds g [(0, y0), (1, y1)]) fun t => Q (.exit 0) t w) (fun y4 y5 w => ∀ g, rsh [(4, (.one .ptr)), (5, (.one (.int .i64)))] (upds g [(4, y4), (5, y5)]) fun t => Q .ret t w)) (G := fun n t w => F14_3 (fun y0 y1 w => ∀ g, rsh [(0, (.one (.int .u32))), (1, (.one .slc))] (upds g [(0, y0), (1, y1)]) fun t => Q (.exit 0) t w) (fun y4 y5 w => ∀ g, rsh [(4, (.one .ptr)), (5, (.one (.int .i64)))] (upds g [(4, y4), (5, y5)]) fun t => Q .ret t w) n (t 0) (t 1) (t 15) (t 16) (t 17) w) (fun _ _ h => h) (fun n t w h => ?_) n t w h).mono ?_
  · rw [F14_3_step] at h
    exact vc_sound mixed (orcNil F14_code) _ _ rfl (okC_at F14_code_ok [0, 0, 1, 0, 1, 1]) _ _ _ (rsh_out h)
  · intro o t w q
    cases o with
    | normal => exact q.elim
    | exit i =>
      unfold F14_3C at q
      simp only at q
      split at q
      · rename_i hi
        rw [nbeq] at hi
        subst hi
        exact out_ok [0, 1] q
      · exact q.elim
    | ret => exact out_ok [4, 5] q
def F14 (x0 : Value) (x1 : Value) (w : World) (K : Value → World → Prop) : Prop :=
  rdI .u32 x0 fun n1 => rdC x1 fun l2a l2n l2c => br (decide (((l2n : Int) : Int) > 4096)) (K (.tuple #[(.pointer none), (.int .i64 3)]) w) (∃ k21 : Nat, F14_3 (fun y0_2 y1_2 w4 => ∀ _g5 : Tm, rdI .u32 y0_2 fun n6 => rdC y1_2 fun l7a l7n l7c => Calls Tryd.prog 23 #[(.int .u32 n6)] w4 fun e10 w9 => ∃ p8, e10 = .returned (.pointer p8) ∧ (∃ k15 : Nat, F14_2 (fun y8_10 w12 => ∀ _g13 : Tm, rdP y8_10 fun p14 => K (.tuple #[(.pointer p14), (.int .i64 0)]) w12) k15 (.pointer p8) (.slice l7a l7n l7c) (.int .i64 (l7n : Int)) (.int .i64 0) w9)) (fun y4_15 y5_15 w17 => ∀ _g18 : Tm, rdP y4_15 fun p19 => rdI .i64 y5_15 fun n20 => K (.tuple #[(.pointer p19), (.int .i64 n20)]) w17) k21 (.int .u32 n1) (.slice l2a l2n l2c) (.slice l2a l2n l2c) (.int .i64 (l2n : Int)) (.int .i64 0) w)
theorem F14_step (x0 : Value) (x1 : Value) (w : World) (K : Value → World → Prop) : (F14 x0 x1 w K) = rsh [(0, (.one (.int .u32))), (1, (.one .slc))] (args0 #[x0, x1]) (fun t => vc Tryd.prog (orcOf [([0, 1, 1, 0, 0, 1, 1, 0, 0, 1, 0, 1, 1, 1, 1], F14_1O), ([0, 1, 0, 1, 1, 1, 1], F14_2O), ([0, 1, 0, 1, 1], F14_3O)]) [] F14_code (retQ Tryd.prog Tryd.f14 K) t w) := by kernel_rfl
theorem F14_ok {x0 x1 : Value} {w : World} {K : Value → World → Prop} (h : F14 x0 x1 w K) : Calls Tryd.prog 14 #[x0, x1] w fun e w' => ∃ v, e = .returned v ∧ K v w' := by
  rw [F14_step] at h
  exact calls_of (c := F14_code) mixed Tryd.func14 rfl (nlt rfl) (vc_sound mixed (orcCons (π := [0, 1, 1, 0, 0, 1, 1, 0, 0, 1, 0, 1, 1, 1, 1]) F14_1_ok (orcCons (π := [0, 1, 0, 1, 1, 1, 1]) F14_2_ok (orcCons (π := [0, 1, 0, 1, 1]) F14_3_ok (orcNil F14_code)))) F14_code [] rfl F14_code_ok _ _ _ (rsh_out h))

/-! (*ropewalk/spans.Set).Gaps -/
noncomputable def F15_code : Code := Tryd.f15.body.getD .skip
theorem F15_code_ok : okC Tryd.prog Tryd.f15.ntmps F15_code = true := by kernel_rfl
def F15_1C (Kr : Value → World → Prop) : Post := fun o t w => match o with | .normal => False | .exit i => (False) | .ret => Kr (t 4) w
def F15_1 (Kr : Value → World → Prop) (x0 : Value) (x3 : Value) (w : World) : Prop :=
  rdP x0 fun p1 => rdA x3 fun a2 => alc (.cells #[(.slice none 0 0)] 37) w fun b3 w4 => nn p1 fun a5 => Calls Tryd.prog 36 #[(.pointer (some (a5.add 0))), (.func (.func 39) #[] #[(.pointer (some (Addr.mk b3 0 none))), (.pointer (some a2))])] w4 fun e7 w6 => e7 = .returned (.tuple #[]) ∧ (ldC (Addr.mk b3 0 none) w6 fun l8a l8n l8c => ldC (Addr.mk b3 0 none) w6 fun l9a l9n l9c => ldI .i64 a2 w6 fun n10 => slS 2 l8a l8n l8c none (some (.int .i64 (if (n10 : Int) < (l9n : Int) then n10 else (l9n : Int)))) fun l11a l11n l11c => Kr (.slice l11a l11n l11c) w6)
def F15_1O (Q : Post) (t : Tm) (w : World) : Prop := F15_1 (fun y4 w => ∀ g, rsh [(4, (.one .slc))] (upds g [(4, y4)]) fun t => Q .ret t w) (t 0) (t 3) w
theorem F15_1_step (Kr : Value → World → Prop) (t : Tm) (w : World) : (F15_1 Kr (t 0) (t 3) w) = rsh [(0, (.one .ptr)), (3, (.one .adr))] t (fun t => vc Tryd.prog (orcOf []) [1, 1] (getAt F15_code [1, 1]) (F15_1C Kr) t w) := by kernel_rfl
theorem F15_1_ok : ∀ Q t w, F15_1O Q t w → W Tryd.prog Tryd.f15.ntmps (getAt F15_code [1, 1]) Q t w := by
  intro Q t w h
  unfold F15_1O at h
  rw [F15_1_step] at h
  refine (vc_sound mixed (orcNil F15_code) _ _ rfl (okC_at F15_code_ok [1, 1]) _ _ _ (rsh_out h)).mono ?_
  intro o t w q
  cases o with
  | normal => exact q.elim
  | exit i => exact q.elim
  | ret => exact out_ok [4] q
def F15 (x0 : Value) (x1 : Value) (w : World) (K : Value → World → Prop) : Prop :=
  rdP x0 fun p1 => rdI .i64 x1 fun n2 => alc (.cells #[(.int .i64 n2)] 3) w fun b3 w4 => Calls Tryd.prog 35 #[(.pointer p1)] w4 fun e7 w6 => ∃ b5, e7 = .returned (.bool b5) ∧ (br (!b5) (K (.slice none 0 0) w6) (ldI .i64 (Addr.mk b3 0 none) w6 fun n8 => br (decide ((n8 : Int) < 1)) (K (.slice none 0 0) w6) (F15_1 (fun y4_8 w10 => ∀ _g11 : Tm, rdC y4_8 fun l12a l12n l12c => K (.slice l12a l12n l12c) w10) (.pointer p1) (.pointer (some (Addr.mk b3 0 none))) w6)))
theorem F15_step (x0 : Value) (x1 : Value) (w : World) (K : Value → World → Prop) : (F15 x0 x1 w K) = rsh [(0, (.one .ptr)), (1, (.one (.int .i64)))] (args0 #[x0, x1]) (fun t => vc Tryd.prog (orcOf [([1, 1], F15_1O)]) [] F15_code (retQ Tryd.prog Tryd.f15 K) t w) := by kernel_rfl
theorem F15_ok {x0 x1 : Value} {w : World} {K : Value → World → Prop} (h : F15 x0 x1 w K) : Calls Tryd.prog 15 #[x0, x1] w fun e w' => ∃ v, e = .returned v ∧ K v w' := by
  rw [F15_step] at h
  exact calls_of (c := F15_code) mixed Tryd.func15 rfl (nlt rfl) (vc_sound mixed (orcCons (π := [1, 1]) F15_1_ok (orcNil F15_code)) F15_code [] rfl F15_code_ok _ _ _ (rsh_out h))

/-! ropewalk/ropewalkref03.From -/
noncomputable def F16_code : Code := Tryd.f16.body.getD .skip
theorem F16_code_ok : okC Tryd.prog Tryd.f16.ntmps F16_code = true := by kernel_rfl
def F16_1C (Kn : Value → Value → Value → Value → World → Prop) : Post := fun o t w => match o with | .normal => Kn (t 0) (t 1) (t 6) (t 7) w | .exit i => (False) | .ret => False
def F16_1 (Kn : Value → Value → Value → Value → World → Prop) (x0 : Value) (x1 : Value) (x6 : Value) (x7 : Value) (w : World) : Prop :=
  rdI .u32 x0 fun n1 => rdC x1 fun l2a l2n l2c => rdC x6 fun l3a l3n l3c => rdI .i64 x7 fun n4 => drw w fun w5 => ixS 2 l2a l2n n4 fun a6 => ldI .u16 (a6.add 0) w5 fun n7 => ixS 2 l2a l2n n4 fun a8 => ldI .u16 (a8.add 1) w5 fun n9 => ixS 1 l3a l3n (IntKind.wrap .i64 (n7)) fun a10 => ldI .i64 a10 w5 fun n11 => ixS 1 l3a l3n (IntKind.wrap .i64 (n7)) fun a12 => stc a12 (.int .i64 (IntKind.wrap .i64 (n11 + 1))) w5 fun w13 => ixS 1 l3a l3n (IntKind.wrap .i64 ((IntKind.wrap .i64 (n9)) + 1)) fun a14 => ldI .i64 a14 w13 fun n15 => ixS 1 l3a l3n (IntKind.wrap .i64 ((IntKind.wrap .i64 (n9)) + 1)) fun a16 => stc a16 (.int .i64 (IntKind.wrap .i64 (n15 - 1))) w13 fun w17 => Kn (.int .u32 n1) (.slice l2a l2n l2c) (.slice l3a l3n l3c) (.int .i64 n4) w17
def F16_1O (Q : Post) (t : Tm) (w : World) : Prop := F16_1 (fun y0 y1 y6 y7 w => ∀ g, rsh [(0, (.one (.int .u32))), (1, (.one .slc)), (6, (.one .slc)), (7, (.one (.int .i64)))] (upds g [(0, y0), (1, y1), (6, y6), (7, y7)]) fun t => Q .normal t w) (t 0) (t 1) (t 6) (t 7) w
theorem F16_1_step (Kn : Value → Value → Value → Value → World → Prop) (t : Tm) (w : World) : (F16_1 Kn (t 0) (t 1) (t 6) (t 7) w) = rsh [(0, (.one (.int .u32))), (1, (.one .slc)), (6, (.one .slc)), (7, (.one (.int .i64)))] t (fun t => vc Tryd.prog (orcOf []) [1, 0, 0, 1, 0, 0, 1, 0, 1, 1, 1] (getAt F16_code [1, 0, 0, 1, 0, 0, 1, 0, 1, 1, 1]) (F16_1C Kn) t w) := by kernel_rfl
theorem F16_1_ok : ∀ Q t w, F16_1O Q t w → W Tryd.prog Tryd.f16.ntmps (getAt F16_code [1, 0, 0, 1, 0, 0, 1, 0, 1, 1, 1]) Q t w := by
  intro Q t w h
  unfold F16_1O at h
  rw [F16_1_step] at h
  refine (vc_sound mixed (orcNil F16_code) _ _ rfl (okC_at F16_code_ok [1, 0, 0, 1, 0, 0, 1, 0, 1, 1, 1]) _ _ _ (rsh_out h)).mono ?_
  intro o t w q
  cases o with
  | normal => exact out_ok [0, 1, 6, 7] q
  | exit i => exact q.elim
  | ret => exact q.elim
def F16_2C (K2 : Value → World → Prop) : Post := fun o t w => match o with | .normal => False | .exit i => (match Nat.beq i 2 with | true => K2 (t 10) w | false => False) | .ret => False
def F16_2B (R : Value → Value → Value → Value → World → Prop) (K2 : Value → World → Prop) (x6 : Value) (x10 : Value) (x11 : Value) (x12 : Value) (w : World) : Prop :=
  rdC x6 fun l1a l1n l1c => rdP x10 fun p2 => rdI .i64 x11 fun n3 => rdI .i64 x12 fun n4 => br (decide ((n4 : Int) ≤ 65535)) (ixS 1 l1a l1n n4 fun a5 => ldI .i64 a5 w fun n6 => br (decide (((IntKind.wrap .i64 (n3 + n6)) : Int) > 0)) (nn p2 fun a7 => ldC (a7.add 1) w fun l8a l8n l8c => alc (.cells #[(.int .i64 n4)] 3) w fun b9 w10 => ∃ l11a l11n l11c w12, Sem.run Tryd.prog (Builtin.append_ #[54, 54] 54 #[(.slice l8a l8n l8c), (.slice (some (Addr.mk b9 0 none)) 1 1)]) w10 = .ok (.slice l11a l11n l11c) w12 ∧ (nn p2 fun a13 => stc (a13.add 1) (.slice l11a l11n l11c) w12 fun w14 => R (.slice l1a l1n l1c) (.pointer p2) (.int .i64 (IntKind.wrap .i64 (n3 + n6))) (.int .i64 (IntKind.wrap .i64 (n4 + 1))) w14)) (R (.slice l1a l1n l1c) (.pointer p2) (.int .i64 (IntKind.wrap .i64 (n3 + n6))) (.int .i64 (IntKind.wrap .i64 (n4 + 1))) w)) (K2 (.pointer p2) w)
def F16_2 (K2 : Value → World → Prop) : Nat → Value → Value → Value → Value → World → Prop
  | 0 => fun _ _ _ _ _ => False
  | n + 1 => F16_2B (F16_2 K2 n) K2
def F16_2O (Q : Post) (t : Tm) (w : World) : Prop := ∃ n, F16_2 (fun y10 w => ∀ g, rsh [(10, (.one .ptr))] (upds g [(10, y10)]) fun t => Q (.exit 2) t w) n (t 6) (t 10) (t 11) (t 12) w
theorem F16_2_step (K2 : Value → World → Prop) (n : Nat) (t : Tm) (w : World) : (F16_2 K2 (n + 1) (t 6) (t 10) (t 11) (t 12) w) = rsh [(6, (.one .slc)), (10, (.one .ptr)), (11, (.one (.int .i64))), (12, (.one (.int .i64)))] t (fun t => vc Tryd.prog (orcOf []) [0, 0, 1, 0, 1, 1, 1, 1, 1, 1] (getAt F16_code [0, 0, 1, 0, 1, 1, 1, 1, 1, 1]) (fun o t w => match o with | .normal => F16_2 K2 n (t 6) (t 10) (t 11) (t 12) w | .exit i => F16_2C K2 (.exit i) t w | .ret => F16_2C K2 .ret t w) t w) := by kernel_rfl
theorem F16_2_ok : ∀ Q t w, F16_2O Q t w → W Tryd.prog Tryd.f16.ntmps (getAt F16_code [0, 1, 0, 1, 1, 1, 1, 1, 1]) Q t w := by
  intro Q t w ⟨n, h⟩
  refine (W_loop (P := Tryd.prog) (b := getAt F16_code [0, 0, 1, 0, 1, 1, 1, 1, 1, 1]) (Q := F16_2C (fun y10 w => ∀ g, rsh [(10, (.one .ptr))] (upds g [(10, y10)]) fun t => Q (.exit 2) t w)) (G := fun n t w => F16_2 (fun y10 w => ∀ g, rsh [(10, (.one .ptr))] (upds g [(10, y10)]) fun t => Q (.exit 2) t w) n (t 6) (t 10) (t 11) (t 12) w) (fun _ _ h => h) (fun n t w h => ?_) n t w h).mono ?_
  · rw [F16_2_step] at h
    exact vc_sound mixed (orcNil F16_code) _ _ rfl (okC_at F16_code_ok [0, 0, 1, 0, 1, 1, 1, 1, 1, 1]) _ _ _ (rsh_out h)
  · intro o t w q
    cases o with
    | normal => exact q.elim
    | exit i =>
      unfold F16_2C at q
      simp only at q
      split at q
      · rename_i hi
        rw [nbeq] at hi
        subst hi
        exact out_ok [10] q
      · exact q.elim
    | ret => exact q.elim
def F16_3C (K0 : Value → Value → World → Prop) (Kr : Value → Value → World → Prop) : Post := fun o t w => match o with | .normal => False | .exit i => (match Nat.beq i 0 with | true => K0 (t 0) (t 6) w | false => False) | .ret => Kr (t 4) (t 5) w
def F16_3B (R : Value → Value → Value → Value → World → Prop) (K0 : Value → Value → World → Prop) (Kr : Value → Value → World → Prop) (x0 : Value) (x1 : Value) (x6 : Value) (x7 : Value) (w : World) : Prop :=
  rdI .u32 x0 fun n1 => rdC x1 fun l2a l2n l2c => rdC x6 fun l3a l3n l3c => rdI .i64 x7 fun n4 => br (decide ((n4 : Int) < (l2n : Int))) (drw w fun w5 => ixS 2 l2a l2n n4 fun a6 => ldI .u16 (a6.add 0) w5 fun n7 => br (decide ((n7 : Int) < 2)) (Kr (.pointer none) (.int .i64 30) w5) (ixS 2 l2a l2n n4 fun a8 => ldI .u16 (a8.add 1) w5 fun n9 => ixS 2 l2a l2n n4 fun a10 => ldI .u16 (a10.add 0) w5 fun n11 => br (decide ((n9 : Int) < n11)) (Kr (.pointer none) (.int .i64 30) w5) (F16_1 (fun y0_11 y1_11 y6_11 y7_11 w13 => ∀ _g14 : Tm, rdI .u32 y0_11 fun n15 => rdC y1_11 fun l16a l16n l16c => rdC y6_11 fun l17a l17n l17c => rdI .i64 y7_11 fun n18 => R (.int .u32 n15) (.slice l16a l16n l16c) (.slice l17a l17n l17c) (.int .i64 (IntKind.wrap .i64 (n18 + 1))) w13) (.int .u32 n1) (.slice l2a l2n l2c) (.slice l3a l3n l3c) (.int .i64 n4) w5))) (K0 (.int .u32 n1) (.slice l3a l3n l3c) w)
def F16_3 (K0 : Value → Value → World → Prop) (Kr : Value → Value → World → Prop) : Nat → Value → Value → Value → Value → World → Prop
  | 0 => fun _ _ _ _ _ => False
  | n + 1 => F16_3B (F16_3 K0 Kr n) K0 Kr
def F16_3O (Q : Post) (t : Tm) (w : World) : Prop := ∃ n, F16_3 (fun y0 y6 w => ∀ g, rsh [(0, (.one (.int .u32))), (6, (.one .slc))] (upds g [(0, y0), (6, y6)]) fun t => Q (.exit 0) t w) (fun y4 y5 w => ∀ g, rsh [(4, (.one .ptr)), (5, (.one (.int .i64)))] (upds g [(4, y4), (5, y5)]) fun t => Q .ret t w) n (t 0) (t 1) (t 6) (t 7) w
theorem F16_3_step (K0 : Value → Value → World → Prop) (Kr : Value → Value → World → Prop) (n : Nat) (t : Tm) (w : World) : (F16_3 K0 Kr (n + 1) (t 0) (t 1) (t 6) (t 7) w) = rsh [(0, (.one (.int .u32))), (1, (.one .slc)), (6, (.one .slc)), (7, (.one (.int .i64)))] t (fun t => vc Tryd.prog (orcOf [([1, 0, 0, 1, 0, 0, 1, 0, 1, 1, 1], F16_1O)]) [0, 0, 1, 0, 1, 1, 1] (getAt F16_code [0, 0, 1, 0, 1, 1, 1]) (fun o t w => match o with | .normal => F16_3 K0 Kr n (t 0) (t 1) (t 6) (t 7) w | .exit i => F16_3C K0 Kr (.exit i) t w | .ret => F16_3C K0 Kr .ret t w) t w) := by kernel_rfl
theorem F16_3_ok : ∀ Q t w, F16_3O Q t w → W Tryd.prog Tryd.f16.ntmps (getAt F16_code [0, 1, 0, 1, 1, 1]) Q t w := by
  intro Q t w ⟨n, h⟩
  refine (W_loop (P := Tryd.prog) (b := getAt F16_code [0, 0, 1, 0, 1, 1, 1]) (Q := F16_3C (fun y0 y6 w => ∀ g, rsh [(0, (.one (.int .u32))), (6, (.one .slc))] (upds g [(0, y0), (6, y6)]) fun t => Q (.exit 0) t w) (fun y4 y5 w => ∀ g, rsh [(4, (.one .ptr)), (5, (.one (.int .i64)))] (upds g [(4, y4), (5, y5)]) fun t => Q .ret t w)) (G := fun n t w => F16_3 (fun y0 y6 w => ∀ g, rsh [(0, (.one (.int .u32))), (6, (.one .slc))] (upds g [(0, y0), (6, y6)]) fun t => Q (.exit 0) t w) (fun y4 y5 w => ∀ g, rsh [(4, (.one .ptr)), (5, (.one (.int .i64)))] (upds g [(4, y4), (5, y5)]) fun t => Q .ret t w) n (t 0) (t 1) (t 6) (t 7) w) (fun _ _ h => h) (fun n t w h => ?_) n t w h).mono ?_
  · rw [F16_3_step] at h
    exact vc_sound mixed (orcCons (π := [1, 0, 0, 1, 0, 0, 1, 0, 1, 1, 1]) F16_1_ok (orcNil F16_code)) _ _ rfl (okC_at F16_code_ok [0, 0, 1, 0, 1, 1, 1]) _ _ _ (rsh_out h)
  · intro o t w q
    cases o with
    | normal => exact q.elim
    | exit i =>
      unfold F16_3C at q
      simp only at q
      split at q
      · rename_i hi
        rw [nbeq] at hi
        subst hi
        exact out_ok [0, 6] q
      · exact q.elim
    | ret => exact out_ok [4, 5] q
def F16 (x0 : Value) (x1 : Value) (w : World) (K : Value → World → Prop) : Prop :=
  rdI .u32 x0 fun n1 => rdC x1 fun l2a l2n l2c => br (decide (((l2n : Int) : Int) > 4096)) (K (.tuple #[(.pointer none), (.int .i64 3)]) w) (∃ l3a l3n l3c w4, Sem.run Tryd.prog (Instr.makeSlice 54 (.int .i64 65537) (.int .i64 65537)) w = .ok (.slice l3a l3n l3c) w4 ∧ (∃ k23 : Nat, F16_3 (fun y0_4 y6_4 w6 => ∀ _g7 : Tm, rdI .u32 y0_4 fun n8 => rdC y6_4 fun l9a l9n l9c => Calls Tryd.prog 24 #[(.int .u32 n8)] w6 fun e12 w11 => ∃ p10, e12 = .returned (.pointer p10) ∧ (∃ k17 : Nat, F16_2 (fun y10_12 w14 => ∀ _g15 : Tm, rdP y10_12 fun p16 => K (.tuple #[(.pointer p16), (.int .i64 0)]) w14) k17 (.slice l9a l9n l9c) (.pointer p10) (.int .i64 0) (.int .i64 2) w11)) (fun y4_17 y5_17 w19 => ∀ _g20 : Tm, rdP y4_17 fun p21 => rdI .i64 y5_17 fun n22 => K (.tuple #[(.pointer p21), (.int .i64 n22)]) w19) k23 (.int .u32 n1) (.slice l2a l2n l2c) (.slice l3a l3n l3c) (.int .i64 0) w4))
theorem F16_step (x0 : Value) (x1 : Value) (w : World) (K : Value → World → Prop) : (F16 x0 x1 w K) = rsh [(0, (.one (.int .u32))), (1, (.one .slc))] (args0 #[x0, x1]) (fun t => vc Tryd.prog (orcOf [([1, 0, 0, 1, 0, 0, 1, 0, 1, 1, 1], F16_1O), ([0, 1, 0, 1, 1, 1, 1, 1, 1], F16_2O), ([0, 1, 0, 1, 1, 1], F16_3O)]) [] F16_code (retQ Tryd.prog Tryd.f16 K) t w) := by kernel_rfl
theorem F16_ok {x0 x1 : Value} {w : World} {K : Value → World → Prop} (h : F16 x0 x1 w K) : Calls Tryd.prog 16 #[x0, x1] w fun e w' => ∃ v, e = .returned v ∧ K v w' := by
  rw [F16_step] at h
  exact calls_of (c := F16_code) mixed Tryd.func16 rfl (nlt rfl) (vc_sound mixed (orcCons (π := [1, 0, 0, 1, 0, 0, 1, 0, 1, 1, 1]) F16_1_ok (orcCons (π := [0, 1, 0, 1, 1, 1, 1, 1, 1]) F16_2_ok (orcCons (π := [0, 1, 0, 1, 1, 1]) F16_3_ok (orcNil F16_code)))) F16_code [] rfl F16_code_ok _ _ _ (rsh_out h))

/-! ropewalk/ropewalklaw03.same -/
noncomputable def F17_code : Code := Tryd.f17.body.getD .skip
theorem F17_code_ok : okC Tryd.prog Tryd.f17.ntmps F17_code = true := by kernel_rfl
def F17 (x0 : Value) (x1 : Value) (w : World) (K : Value → World → Prop) : Prop :=
  rdP x0 fun p1 => rdP x1 fun p2 => drw w fun w3 => nn p2 fun a4 => ldI .u32 (a4.add 0) w3 fun n5 => Calls Tryd.prog 10 #[(.pointer p1)] w3 fun e8 w7 => ∃ n6, e8 = .returned (.int .u32 n6) ∧ (Pres w3 w7 ∧ (br (n6 == n5) (nn p2 fun a9 => ldC (a9.add 1) w3 fun l10a l10n l10c => Calls Tryd.prog 34 #[(.pointer p1)] w7 fun e13 w12 => ∃ n11, e13 = .returned (.int .i64 n11) ∧ (Pres w7 w12 ∧ (br (n11 == (l10n : Int)) (Calls Tryd.prog 20 #[(.pointer p1)] w12 fun e16 w15 => ∃ n14, e16 = .returned (.int .u32 n14) ∧ (Calls Tryd.prog 40 #[(.pointer p2)] w15 fun e19 w18 => ∃ n17, e19 = .returned (.int .u32 n17) ∧ (br (n14 == n17) (Calls Tryd.prog 12 #[(.pointer p1)] w18 fun e22 w21 => ∃ l20a l20n l20c, e22 = .returned (.slice l20a l20n l20c) ∧ (Calls Tryd.prog 41 #[(.pointer p2)] w21 fun e25 w24 => ∃ l23a l23n l23c, e25 = .returned (.slice l23a l23n l23c) ∧ (Calls Tryd.prog 11 #[(.slice l20a l20n l20c), (.slice l23a l23n l23c)] w24 fun e28 w27 => ∃ b26, e28 = .returned (.bool b26) ∧ (K (.bool b26) w27)))) (K (.bool false) w18)))) (K (.bool false) w12)))) (K (.bool false) w7)))
theorem F17_step (x0 : Value) (x1 : Value) (w : World) (K : Value → World → Prop) : (F17 x0 x1 w K) = rsh [(0, (.one .ptr)), (1, (.one .ptr))] (args0 #[x0, x1]) (fun t => vc Tryd.prog (orcOf []) [] F17_code (retQ Tryd.prog Tryd.f17 K) t w) := by kernel_rfl
theorem F17_ok {x0 x1 : Value} {w : World} {K : Value → World → Prop} (h : F17 x0 x1 w K) : Calls Tryd.prog 17 #[x0, x1] w fun e w' => ∃ v, e = .returned v ∧ K v w' := by
  rw [F17_step] at h
  exact calls_of (c := F17_code) mixed Tryd.func17 rfl (nlt rfl) (vc_sound mixed (orcNil F17_code) F17_code [] rfl F17_code_ok _ _ _ (rsh_out h))

/-! (*ropewalk/spans.Set).Missing -/
noncomputable def F18_code : Code := Tryd.f18.body.getD .skip
theorem F18_code_ok : okC Tryd.prog Tryd.f18.ntmps F18_code = true := by kernel_rfl
def F18_1C (Kr : Value → World → Prop) : Post := fun o t w => match o with | .normal => False | .exit i => (False) | .ret => Kr (t 4) w
def F18_1 (Kr : Value → World → Prop) (x2 : Value) (x3 : Value) (w : World) : Prop :=
  rdA x2 fun a1 => rdA x3 fun a2 => alc (.cells #[(.slice none 0 0)] 30) w fun b3 w4 => alc (.cells #[(.int .i64 0)] 3) w4 fun b5 w6 => stc (Addr.mk b5 0 none) (.int .i64 1) w6 fun w7 => ldP a1 w7 fun p8 => nn p8 fun a9 => Calls Tryd.prog 36 #[(.pointer (some (a9.add 0))), (.func (.func 42) #[] #[(.pointer (some (Addr.mk b5 0 none))), (.pointer (some (Addr.mk b3 0 none))), (.pointer (some a2)), (.pointer (some a1))])] w7 fun e11 w10 => e11 = .returned (.tuple #[]) ∧ (ldC (Addr.mk b3 0 none) w10 fun l12a l12n l12c => Kr (.slice l12a l12n l12c) w10)
def F18_1O (Q : Post) (t : Tm) (w : World) : Prop := F18_1 (fun y4 w => ∀ g, rsh [(4, (.one .slc))] (upds g [(4, y4)]) fun t => Q .ret t w) (t 2) (t 3) w
theorem F18_1_step (Kr : Value → World → Prop) (t : Tm) (w : World) : (F18_1 Kr (t 2) (t 3) w) = rsh [(2, (.one .adr)), (3, (.one .adr))] t (fun t => vc Tryd.prog (orcOf []) [1, 1] (getAt F18_code [1, 1]) (F18_1C Kr) t w) := by kernel_rfl
theorem F18_1_ok : ∀ Q t w, F18_1O Q t w → W Tryd.prog Tryd.f18.ntmps (getAt F18_code [1, 1]) Q t w := by
  intro Q t w h
  unfold F18_1O at h
  rw [F18_1_step] at h
  refine (vc_sound mixed (orcNil F18_code) _ _ rfl (okC_at F18_code_ok [1, 1]) _ _ _ (rsh_out h)).mono ?_
  intro o t w q
  cases o with
  | normal => exact q.elim
  | exit i => exact q.elim
  | ret => exact out_ok [4] q
def F18 (x0 : Value) (x1 : Value) (w : World) (K : Value → World → Prop) : Prop :=
  rdP x0 fun p1 => rdI .i64 x1 fun n2 => alc (.cells #[(.pointer p1)] 25) w fun b3 w4 => alc (.cells #[(.int .i64 n2)] 3) w4 fun b5 w6 => ldP (Addr.mk b3 0 none) w6 fun p7 => Calls Tryd.prog 35 #[(.pointer p7)] w6 fun e10 w9 => ∃ b8, e10 = .returned (.bool b8) ∧ (br (!b8) (K (.slice none 0 0) w9) (ldI .i64 (Addr.mk b5 0 none) w9 fun n11 => br (decide ((n11 : Int) < 1)) (K (.slice none 0 0) w9) (F18_1 (fun y4_11 w13 => ∀ _g14 : Tm, rdC y4_11 fun l15a l15n l15c => K (.slice l15a l15n l15c) w13) (.pointer (some (Addr.mk b3 0 none))) (.pointer (some (Addr.mk b5 0 none))) w9)))
theorem F18_step (x0 : Value) (x1 : Value) (w : World) (K : Value → World → Prop) : (F18 x0 x1 w K) = rsh [(0, (.one .ptr)), (1, (.one (.int .i64)))] (args0 #[x0, x1]) (fun t => vc Tryd.prog (orcOf [([1, 1], F18_1O)]) [] F18_code (retQ Tryd.prog Tryd.f18 K) t w) := by kernel_rfl
theorem F18_ok {x0 x1 : Value} {w : World} {K : Value → World → Prop} (h : F18 x0 x1 w K) : Calls Tryd.prog 18 #[x0, x1] w fun e w' => ∃ v, e = .returned v ∧ K v w' := by
  rw [F18_step] at h
  exact calls_of (c := F18_code) mixed Tryd.func18 rfl (nlt rfl) (vc_sound mixed (orcCons (π := [1, 1]) F18_1_ok (orcNil F18_code)) F18_code [] rfl F18_code_ok _ _ _ (rsh_out h))

/-! ropewalk/ropewalkref01.Diff -/
noncomputable def F19_code : Code := Tryd.f19.body.getD .skip
theorem F19_code_ok : okC Tryd.prog Tryd.f19.ntmps F19_code = true := by kernel_rfl
def F19 (x0 : Value) (x1 : Value) (w : World) (K : Value → World → Prop) : Prop :=
  rdI .u32 x0 fun n1 => rdI .u32 x1 fun n2 => Calls Tryd.prog 43 #[(.int .i64 (IntKind.wrap .i64 (n1))), (.int .i64 (IntKind.wrap .i64 (n2))), (.int .i64 4294967296)] w fun e5 w4 => ∃ n3, e5 = .returned (.int .i64 n3) ∧ (K (.int .i64 n3) w4)
theorem F19_step (x0 : Value) (x1 : Value) (w : World) (K : Value → World → Prop) : (F19 x0 x1 w K) = rsh [(0, (.one (.int .u32))), (1, (.one (.int .u32)))] (args0 #[x0, x1]) (fun t => vc Tryd.prog (orcOf []) [] F19_code (retQ Tryd.prog Tryd.f19 K) t w) := by kernel_rfl
theorem F19_ok {x0 x1 : Value} {w : World} {K : Value → World → Prop} (h : F19 x0 x1 w K) : Calls Tryd.prog 19 #[x0, x1] w fun e w' => ∃ v, e = .returned v ∧ K v w' := by
  rw [F19_step] at h
  exact calls_of (c := F19_code) mixed Tryd.func19 rfl (nlt rfl) (vc_sound mixed (orcNil F19_code) F19_code [] rfl F19_code_ok _ _ _ (rsh_out h))

/-! (*ropewalk/spans.Set).High -/
noncomputable def F20_code : Code := Tryd.f20.body.getD .skip
theorem F20_code_ok : okC Tryd.prog Tryd.f20.ntmps F20_code = true := by kernel_rfl
def F20 (x0 : Value) (w : World) (K : Value → World → Prop) : Prop :=
  rdP x0 fun p1 => alc (.cells #[(.pointer p1)] 25) w fun b2 w3 => ldP (Addr.mk b2 0 none) w3 fun p4 => Calls Tryd.prog 35 #[(.pointer p4)] w3 fun e7 w6 => ∃ b5, e7 = .returned (.bool b5) ∧ (br (!b5) (K (.int .u32 0) w6) (ldP (Addr.mk b2 0 none) w6 fun p8 => nn p8 fun a9 => ldI .u32 (a9.add 2) w6 fun n10 => alc (.cells #[(.int .u32 0)] 22) w6 fun b11 w12 => stc (Addr.mk b11 0 none) (.int .u32 n10) w12 fun w13 => ldP (Addr.mk b2 0 none) w13 fun p14 => nn p14 fun a15 => Calls Tryd.prog 36 #[(.pointer (some (a15.add 0))), (.func (.func 44) #[] #[(.pointer (some (Addr.mk b2 0 none))), (.pointer (some (Addr.mk b11 0 none)))])] w13 fun e17 w16 => e17 = .returned (.tuple #[]) ∧ (ldI .u32 (Addr.mk b11 0 none) w16 fun n18 => K (.int .u32 n18) w16)))
theorem F20_step (x0 : Value) (w : World) (K : Value → World → Prop) : (F20 x0 w K) = rsh [(0, (.one .ptr))] (args0 #[x0]) (fun t => vc Tryd.prog (orcOf []) [] F20_code (retQ Tryd.prog Tryd.f20 K) t w) := by kernel_rfl
theorem F20_ok {x0 : Value} {w : World} {K : Value → World → Prop} (h : F20 x0 w K) : Calls Tryd.prog 20 #[x0] w fun e w' => ∃ v, e = .returned v ∧ K v w' := by
  rw [F20_step] at h
  exact calls_of (c := F20_code) mixed Tryd.func20 rfl (nlt rfl) (vc_sound mixed (orcNil F20_code) F20_code [] rfl F20_code_ok _ _ _ (rsh_out h))

/-! (*ropewalk/spans.Set).Has -/
noncomputable def F21_code : Code := Tryd.f21.body.getD .skip
theorem F21_code_ok : okC Tryd.prog Tryd.f21.ntmps F21_code = true := by kernel_rfl
def F21 (x0 : Value) (x1 : Value) (w : World) (K : Value → World → Prop) : Prop :=
  rdP x0 fun p1 => rdI .u32 x1 fun n2 => Calls Tryd.prog 35 #[(.pointer p1)] w fun e5 w4 => ∃ b3, e5 = .returned (.bool b3) ∧ (br (!b3) (K (.bool false) w4) (Calls Tryd.prog 45 #[(.pointer p1), (.int .u32 n2)] w4 fun e8 w7 => ∃ n6, e8 = .returned (.int .i64 n6) ∧ (nn p1 fun a9 => ldI .u32 (a9.add 2) w7 fun n10 => Calls Tryd.prog 46 #[(.int .u32 n10), (.int .u32 n2)] w7 fun e13 w12 => ∃ n11, e13 = .returned (.int .i64 n11) ∧ (br (decide ((n11 : Int) ≤ 0)) (K (.bool true) w12) (br (decide ((n6 : Int) > 0)) (nn p1 fun a14 => Calls Tryd.prog 47 #[(.pointer (some (a14.add 0))), (.int .i64 n6)] w12 fun e17 w16 => ∃ b15, e17 = .returned (.bool b15) ∧ (K (.bool b15) w16)) (K (.bool false) w12))))))
theorem F21_step (x0 : Value) (x1 : Value) (w : World) (K : Value → World → Prop) : (F21 x0 x1 w K) = rsh [(0, (.one .ptr)), (1, (.one (.int .u32)))] (args0 #[x0, x1]) (fun t => vc Tryd.prog (orcOf []) [] F21_code (retQ Tryd.prog Tryd.f21 K) t w) := by kernel_rfl
theorem F21_ok {x0 x1 : Value} {w : World} {K : Value → World → Prop} (h : F21 x0 x1 w K) : Calls Tryd.prog 21 #[x0, x1] w fun e w' => ∃ v, e = .returned v ∧ K v w' := by
  rw [F21_step] at h
  exact calls_of (c := F21_code) mixed Tryd.func21 rfl (nlt rfl) (vc_sound mixed (orcNil F21_code) F21_code [] rfl F21_code_ok _ _ _ (rsh_out h))

/-! ropewalk/ropewalkref01.Less -/
noncomputable def F22_code : Code := Tryd.f22.body.getD .skip
theorem F22_code_ok : okC Tryd.prog Tryd.f22.ntmps F22_code = true := by kernel_rfl
def F22 (x0 : Value) (x1 : Value) (w : World) (K : Value → World → Prop) : Prop :=
  rdI .u32 x0 fun n1 => rdI .u32 x1 fun n2 => Calls Tryd.prog 19 #[(.int .u32 n1), (.int .u32 n2)] w fun e5 w4 => ∃ n3, e5 = .returned (.int .i64 n3) ∧ (K (.bool (decide ((n3 : Int) > 0))) w4)
theorem F22_step (x0 : Value) (x1 : Value) (w : World) (K : Value → World → Prop) : (F22 x0 x1 w K) = rsh [(0, (.one (.int .u32))), (1, (.one (.int .u32)))] (args0 #[x0, x1]) (fun t => vc Tryd.prog (orcOf []) [] F22_code (retQ Tryd.prog Tryd.f22 K) t w) := by kernel_rfl
theorem F22_ok {x0 x1 : Value} {w : World} {K : Value → World → Prop} (h : F22 x0 x1 w K) : Calls Tryd.prog 22 #[x0, x1] w fun e w' => ∃ v, e = .returned v ∧ K v w' := by
  rw [F22_step] at h
  exact calls_of (c := F22_code) mixed Tryd.func22 rfl (nlt rfl) (vc_sound mixed (orcNil F22_code) F22_code [] rfl F22_code_ok _ _ _ (rsh_out h))

/-! ropewalk/spans.New -/
noncomputable def F23_code : Code := Tryd.f23.body.getD .skip
theorem F23_code_ok : okC Tryd.prog Tryd.f23.ntmps F23_code = true := by kernel_rfl
def F23 (x0 : Value) (w : World) (K : Value → World → Prop) : Prop :=
  rdI .u32 x0 fun n1 => alc (.map #[] 0) w fun b2 w3 => alc (.cells #[(.map (some b2)), (.int .i64 0), (.int .u32 n1)] 67) w3 fun b4 w5 => K (.pointer (some (Addr.mk b4 0 none))) w5
theorem F23_step (x0 : Value) (w : World) (K : Value → World → Prop) : (F23 x0 w K) = rsh [(0, (.one (.int .u32)))] (args0 #[x0]) (fun t => vc Tryd.prog (orcOf []) [] F23_code (retQ Tryd.prog Tryd.f23 K) t w) := by kernel_rfl
theorem F23_ok {x0 : Value} {w : World} {K : Value → World → Prop} (h : F23 x0 w K) : Calls Tryd.prog 23 #[x0] w fun e w' => ∃ v, e = .returned v ∧ K v w' := by
  rw [F23_step] at h
  exact calls_of (c := F23_code) mixed Tryd.func23 rfl (nlt rfl) (vc_sound mixed (orcNil F23_code) F23_code [] rfl F23_code_ok _ _ _ (rsh_out h))

/-! ropewalk/ropewalkref03.New -/
noncomputable def F24_code : Code := Tryd.f24.body.getD .skip
theorem F24_code_ok : okC Tryd.prog Tryd.f24.ntmps F24_code = true := by kernel_rfl
def F24 (x0 : Value) (w : World) (K : Value → World → Prop) : Prop :=
  rdI .u32 x0 fun n1 => alc (.cells #[(.int .u32 n1), (.slice none 0 0)] 56) w fun b2 w3 => K (.pointer (some (Addr.mk b2 0 none))) w3
theorem F24_step (x0 : Value) (w : World) (K : Value → World → Prop) : (F24 x0 w K) = rsh [(0, (.one (.int .u32)))] (args0 #[x0]) (fun t => vc Tryd.prog (orcOf []) [] F24_code (retQ Tryd.prog Tryd.f24 K) t w) := by kernel_rfl
theorem F24_ok {x0 : Value} {w : World} {K : Value → World → Prop} (h : F24 x0 w K) : Calls Tryd.prog 24 #[x0] w fun e w' => ∃ v, e = .returned v ∧ K v w' := by
  rw [F24_step] at h
  exact calls_of (c := F24_code) mixed Tryd.func24 rfl (nlt rfl) (vc_sound mixed (orcNil F24_code) F24_code [] rfl F24_code_ok _ _ _ (rsh_out h))

/-! ropewalk/ropewalkref01.Add -/
noncomputable def F25_code : Code := Tryd.f25.body.getD .skip
theorem F25_code_ok : okC Tryd.prog Tryd.f25.ntmps F25_code = true := by kernel_rfl
def F25 (x0 : Value) (x1 : Value) (w : World) (K : Value → World → Prop) : Prop :=
  rdI .u32 x0 fun n1 => rdI .u32 x1 fun n2 => K (.int .u32 (IntKind.wrap .u32 ((Int.tmod (IntKind.wrap .u64 ((IntKind.wrap .u64 (n1)) + (IntKind.wrap .u64 (n2)))) 4294967296)))) w
theorem F25_step (x0 : Value) (x1 : Value) (w : World) (K : Value → World → Prop) : (F25 x0 x1 w K) = rsh [(0, (.one (.int .u32))), (1, (.one (.int .u32)))] (args0 #[x0, x1]) (fun t => vc Tryd.prog (orcOf []) [] F25_code (retQ Tryd.prog Tryd.f25 K) t w) := by kernel_rfl
theorem F25_ok {x0 x1 : Value} {w : World} {K : Value → World → Prop} (h : F25 x0 x1 w K) : Calls Tryd.prog 25 #[x0, x1] w fun e w' => ∃ v, e = .returned v ∧ K v w' := by
  rw [F25_step] at h
  exact calls_of (c := F25_code) mixed Tryd.func25 rfl (nlt rfl) (vc_sound mixed (orcNil F25_code) F25_code [] rfl F25_code_ok _ _ _ (rsh_out h))

/-! (*ropewalk/spans.Set).Add -/
noncomputable def F26_code : Code := Tryd.f26.body.getD .skip
theorem F26_code_ok : okC Tryd.prog Tryd.f26.ntmps F26_code = true := by kernel_rfl
def F26_1C (K1 : Value → Value → World → Prop) : Post := fun o t w => match o with | .normal => False | .exit i => (match Nat.beq i 1 with | true => K1 (t 0) (t 7) w | false => False) | .ret => False
def F26_1B (R : Value → Value → World → Prop) (K1 : Value → Value → World → Prop) (x0 : Value) (x7 : Value) (w : World) : Prop :=
  rdP x0 fun p1 => rdI .i64 x7 fun n2 => br (decide ((n2 : Int) < 65535)) (nn p1 fun a3 => Calls Tryd.prog 47 #[(.pointer (some (a3.add 0))), (.int .i64 (IntKind.wrap .i64 (n2 + 1)))] w fun e6 w5 => ∃ b4, e6 = .returned (.bool b4) ∧ (br b4 (R (.pointer p1) (.int .i64 (IntKind.wrap .i64 (n2 + 1))) w5) (K1 (.pointer p1) (.int .i64 n2) w5))) (K1 (.pointer p1) (.int .i64 n2) w)
def F26_1 (K1 : Value → Value → World → Prop) : Nat → Value → Value → World → Prop
  | 0 => fun _ _ _ => False
  | n + 1 => F26_1B (F26_1 K1 n) K1
def F26_1O (Q : Post) (t : Tm) (w : World) : Prop := ∃ n, F26_1 (fun y0 y7 w => ∀ g, rsh [(0, (.one .ptr)), (7, (.one (.int .i64)))] (upds g [(0, y0), (7, y7)]) fun t => Q (.exit 1) t w) n (t 0) (t 7) w
theorem F26_1_step (K1 : Value → Value → World → Prop) (n : Nat) (t : Tm) (w : World) : (F26_1 K1 (n + 1) (t 0) (t 7) w) = rsh [(0, (.one .ptr)), (7, (.one (.int .i64)))] t (fun t => vc Tryd.prog (orcOf []) [0, 0, 0, 1, 1, 1, 1, 1] (getAt F26_code [0, 0, 0, 1, 1, 1, 1, 1]) (fun o t w => match o with | .normal => F26_1 K1 n (t 0) (t 7) w | .exit i => F26_1C K1 (.exit i) t w | .ret => F26_1C K1 .ret t w) t w) := by kernel_rfl
theorem F26_1_ok : ∀ Q t w, F26_1O Q t w → W Tryd.prog Tryd.f26.ntmps (getAt F26_code [0, 0, 1, 1, 1, 1, 1]) Q t w := by
  intro Q t w ⟨n, h⟩
  refine (W_loop (P := Tryd.prog) (b := getAt F26_code [0, 0, 0, 1, 1, 1, 1, 1]) (Q := F26_1C (fun y0 y7 w => ∀ g, rsh [(0, (.one .ptr)), (7, (.one (.int .i64)))] (upds g [(0, y0), (7, y7)]) fun t => Q (.exit 1) t w)) (G := fun n t w => F26_1 (fun y0 y7 w => ∀ g, rsh [(0, (.one .ptr)), (7, (.one (.int .i64)))] (upds g [(0, y0), (7, y7)]) fun t => Q (.exit 1) t w) n (t 0) (t 7) w) (fun _ _ h => h) (fun n t w h => ?_) n t w h).mono ?_
  · rw [F26_1_step] at h
    exact vc_sound mixed (orcNil F26_code) _ _ rfl (okC_at F26_code_ok [0, 0, 0, 1, 1, 1, 1, 1]) _ _ _ (rsh_out h)
  · intro o t w q
    cases o with
    | normal => exact q.elim
    | exit i =>
      unfold F26_1C at q
      simp only at q
      split at q
      · rename_i hi
        rw [nbeq] at hi
        subst hi
        exact out_ok [0, 7] q
      · exact q.elim
    | ret => exact q.elim
def F26 (x0 : Value) (x1 : Value) (w : World) (K : Value → World → Prop) : Prop :=
  rdP x0 fun p1 => rdI .u32 x1 fun n2 => Calls Tryd.prog 35 #[(.pointer p1)] w fun e5 w4 => ∃ b3, e5 = .returned (.bool b3) ∧ (br (!b3) (K (.tuple #[(.bool false), (.int .i64 4)]) w4) (nn p1 fun a6 => ldI .u32 (a6.add 2) w4 fun n7 => Calls Tryd.prog 46 #[(.int .u32 n7), (.int .u32 n2)] w4 fun e10 w9 => ∃ n8, e10 = .returned (.int .i64 n8) ∧ (br (decide ((n8 : Int) ≤ 0)) (K (.tuple #[(.bool false), (.int .i64 0)]) w9) (br (decide ((n8 : Int) > 65535)) (K (.tuple #[(.bool false), (.int .i64 31)]) w9) (br (decide ((n8 : Int) > 1)) (nn p1 fun a11 => Calls Tryd.prog 38 #[(.pointer (some (a11.add 0))), (.int .i64 n8)] w9 fun e14 w13 => ∃ b12, e14 = .returned (.bool b12) ∧ (K (.tuple #[(.bool b12), (.int .i64 0)]) w13)) (∃ k22 : Nat, F26_1 (fun y0_14 y7_14 w16 => ∀ _g17 : Tm, rdP y0_14 fun p18 => rdI .i64 y7_14 fun n19 => Calls Tryd.prog 48 #[(.pointer p18), (.int .i64 n19)] w16 fun e21 w20 => e21 = .returned (.tuple #[]) ∧ (K (.tuple #[(.bool true), (.int .i64 0)]) w20)) k22 (.pointer p1) (.int .i64 1) w9))))))
theorem F26_step (x0 : Value) (x1 : Value) (w : World) (K : Value → World → Prop) : (F26 x0 x1 w K) = rsh [(0, (.one .ptr)), (1, (.one (.int .u32)))] (args0 #[x0, x1]) (fun t => vc Tryd.prog (orcOf [([0, 0, 1, 1, 1, 1, 1], F26_1O)]) [] F26_code (retQ Tryd.prog Tryd.f26 K) t w) := by kernel_rfl
theorem F26_ok {x0 x1 : Value} {w : World} {K : Value → World → Prop} (h : F26 x0 x1 w K) : Calls Tryd.prog 26 #[x0, x1] w fun e w' => ∃ v, e = .returned v ∧ K v w' := by
  rw [F26_step] at h
  exact calls_of (c := F26_code) mixed Tryd.func26 rfl (nlt rfl) (vc_sound mixed (orcCons (π := [0, 0, 1, 1, 1, 1, 1]) F26_1_ok (orcNil F26_code)) F26_code [] rfl F26_code_ok _ _ _ (rsh_out h))

/-! (*ropewalk/ropewalkref03.Set).Add -/
noncomputable def F27_code : Code := Tryd.f27.body.getD .skip
theorem F27_code_ok : okC Tryd.prog Tryd.f27.ntmps F27_code = true := by kernel_rfl
def F27_1C (K4 : World → Prop) : Post := fun o t w => match o with | .normal => False | .exit i => (match Nat.beq i 4 with | true => K4  w | false => False) | .ret => False
def F27_1B (R : Value → Value → Value → Value → World → Prop) (K4 : World → Prop) (x0 : Value) (x7 : Value) (x10 : Value) (x11 : Value) (w : World) : Prop :=
  rdP x0 fun p1 => rdC x7 fun l2a l2n l2c => rdI .i64 x10 fun n3 => rdI .i64 x11 fun n4 => br (decide ((n4 : Int) < (l2n : Int))) (drw w fun w5 => nn p1 fun a6 => ldC (a6.add 1) w5 fun l7a l7n l7c => ixS 1 l2a l2n n4 fun a8 => ldI .i64 a8 w5 fun n9 => alc (.cells #[(.int .i64 (IntKind.wrap .i64 (n9 - n3)))] 3) w5 fun b10 w11 => Pres w5 w11 ∧ (∃ l12a l12n l12c w13, Sem.run Tryd.prog (Builtin.append_ #[54, 54] 54 #[(.slice l7a l7n l7c), (.slice (some (Addr.mk b10 0 none)) 1 1)]) w11 = .ok (.slice l12a l12n l12c) w13 ∧ (nn p1 fun a14 => stc (a14.add 1) (.slice l12a l12n l12c) w13 fun w15 => R (.pointer p1) (.slice l2a l2n l2c) (.int .i64 n3) (.int .i64 (IntKind.wrap .i64 (n4 + 1))) w15))) (K4 w)
def F27_1 (K4 : World → Prop) : Nat → Value → Value → Value → Value → World → Prop
  | 0 => fun _ _ _ _ _ => False
  | n + 1 => F27_1B (F27_1 K4 n) K4
def F27_1O (Q : Post) (t : Tm) (w : World) : Prop := ∃ n, F27_1 (fun w => ∀ g, rsh [] (upds g []) fun t => Q (.exit 4) t w) n (t 0) (t 7) (t 10) (t 11) w
theorem F27_1_step (K4 : World → Prop) (n : Nat) (t : Tm) (w : World) : (F27_1 K4 (n + 1) (t 0) (t 7) (t 10) (t 11) w) = rsh [(0, (.one .ptr)), (7, (.one .slc)), (10, (.one (.int .i64))), (11, (.one (.int .i64)))] t (fun t => vc Tryd.prog (orcOf []) [0, 0, 1, 0, 1, 1, 1, 1, 1, 1, 1, 1, 1, 1, 1, 1] (getAt F27_code [0, 0, 1, 0, 1, 1, 1, 1, 1, 1, 1, 1, 1, 1, 1, 1]) (fun o t w => match o with | .normal => F27_1 K4 n (t 0) (t 7) (t 10) (t 11) w | .exit i => F27_1C K4 (.exit i) t w | .ret => F27_1C K4 .ret t w) t w) := by kernel_rfl
theorem F27_1_ok : ∀ Q t w, F27_1O Q t w → W Tryd.prog Tryd.f27.ntmps (getAt F27_code [0, 1, 0, 1, 1, 1, 1, 1, 1, 1, 1, 1, 1, 1, 1]) Q t w := by
  intro Q t w ⟨n, h⟩
  refine (W_loop (P := Tryd.prog) (b := getAt F27_code [0, 0, 1, 0, 1, 1, 1, 1, 1, 1, 1, 1, 1, 1, 1, 1]) (Q := F27_1C (fun w => ∀ g, rsh [] (upds g []) fun t => Q (.exit 4) t w)) (G := fun n t w => F27_1 (fun w => ∀ g, rsh [] (upds g []) fun t => Q (.exit 4) t w) n (t 0) (t 7) (t 10) (t 11) w) (fun _ _ h => h) (fun n t w h => ?_) n t w h).mono ?_
  · rw [F27_1_step] at h
    exact vc_sound mixed (orcNil F27_code) _ _ rfl (okC_at F27_code_ok [0, 0, 1, 0, 1, 1, 1, 1, 1, 1, 1, 1, 1, 1, 1, 1]) _ _ _ (rsh_out h)
  · intro o t w q
    cases o with
    | normal => exact q.elim
    | exit i =>
      unfold F27_1C at q
      simp only at q
      split at q
      · rename_i hi
        rw [nbeq] at hi
        subst hi
        exact out_ok [] q
      · exact q.elim
    | ret => exact q.elim
def F27_2C (Kn : Value → Value → Value → Value → Value → World → Prop) : Post := fun o t w => match o with | .normal => Kn (t 0) (t 6) (t 7) (t 8) (t 9) w | .exit i => (False) | .ret => False
def F27_2 (Kn : Value → Value → Value → Value → Value → World → Prop) (x0 : Value) (x6 : Value) (x7 : Value) (x8 : Value) (x9 : Value) (w : World) : Prop :=
  rdP x0 fun p1 => rdI .i64 x6 fun n2 => rdC x7 fun l3a l3n l3c => rdB x8 fun b4 => rdI .i64 x9 fun n5 => nn p1 fun a6 => ldC (a6.add 1) w fun l7a l7n l7c => ixS 1 l7a l7n n5 fun a8 => ldI .i64 a8 w fun n9 => alc (.cells #[(.int .i64 n9)] 3) w fun b10 w11 => ∃ l12a l12n l12c w13, Sem.run Tryd.prog (Builtin.append_ #[54, 54] 54 #[(.slice l3a l3n l3c), (.slice (some (Addr.mk b10 0 none)) 1 1)]) w11 = .ok (.slice l12a l12n l12c) w13 ∧ (Kn (.pointer p1) (.int .i64 n2) (.slice l12a l12n l12c) (.bool b4) (.int .i64 n5) w13)
def F27_2O (Q : Post) (t : Tm) (w : World) : Prop := F27_2 (fun y0 y6 y7 y8 y9 w => ∀ g, rsh [(0, (.one .ptr)), (6, (.one (.int .i64))), (7, (.one .slc)), (8, (.one .bool)), (9, (.one (.int .i64)))] (upds g [(0, y0), (6, y6), (7, y7), (8, y8), (9, y9)]) fun t => Q .normal t w) (t 0) (t 6) (t 7) (t 8) (t 9) w
theorem F27_2_step (Kn : Value → Value → Value → Value → Value → World → Prop) (t : Tm) (w : World) : (F27_2 Kn (t 0) (t 6) (t 7) (t 8) (t 9) w) = rsh [(0, (.one .ptr)), (6, (.one (.int .i64))), (7, (.one .slc)), (8, (.one .bool)), (9, (.one (.int .i64)))] t (fun t => vc Tryd.prog (orcOf []) [1, 0, 0, 1, 0, 0, 1, 0, 1, 1, 1, 1, 1, 1] (getAt F27_code [1, 0, 0, 1, 0, 0, 1, 0, 1, 1, 1, 1, 1, 1]) (F27_2C Kn) t w) := by kernel_rfl
theorem F27_2_ok : ∀ Q t w, F27_2O Q t w → W Tryd.prog Tryd.f27.ntmps (getAt F27_code [1, 0, 0, 1, 0, 0, 1, 0, 1, 1, 1, 1, 1, 1]) Q t w := by
  intro Q t w h
  unfold F27_2O at h
  rw [F27_2_step] at h
  refine (vc_sound mixed (orcNil F27_code) _ _ rfl (okC_at F27_code_ok [1, 0, 0, 1, 0, 0, 1, 0, 1, 1, 1, 1, 1, 1]) _ _ _ (rsh_out h)).mono ?_
  intro o t w q
  cases o with
  | normal => exact out_ok [0, 6, 7, 8, 9] q
  | exit i => exact q.elim
  | ret => exact q.elim
def F27_3C (K2 : Value → Value → Value → World → Prop) : Post := fun o t w => match o with | .normal => False | .exit i => (match Nat.beq i 2 with | true => K2 (t 0) (t 7) (t 10) w | false => False) | .ret => False
def F27_3B (R : Value → Value → Value → World → Prop) (K2 : Value → Value → Value → World → Prop) (x0 : Value) (x7 : Value) (x10 : Value) (w : World) : Prop :=
  rdP x0 fun p1 => rdC x7 fun l2a l2n l2c => rdI .i64 x10 fun n3 => br (decide ((n3 : Int) < (l2n : Int))) (ixS 1 l2a l2n n3 fun a4 => ldI .i64 a4 w fun n5 => br (n5 == (IntKind.wrap .i64 (n3 + 1))) (R (.pointer p1) (.slice l2a l2n l2c) (.int .i64 (IntKind.wrap .i64 (n3 + 1))) w) (K2 (.pointer p1) (.slice l2a l2n l2c) (.int .i64 n3) w)) (K2 (.pointer p1) (.slice l2a l2n l2c) (.int .i64 n3) w)
def F27_3 (K2 : Value → Value → Value → World → Prop) : Nat → Value → Value → Value → World → Prop
  | 0 => fun _ _ _ _ => False
  | n + 1 => F27_3B (F27_3 K2 n) K2
def F27_3O (Q : Post) (t : Tm) (w : World) : Prop := ∃ n, F27_3 (fun y0 y7 y10 w => ∀ g, rsh [(0, (.one .ptr)), (7, (.one .slc)), (10, (.one (.int .i64)))] (upds g [(0, y0), (7, y7), (10, y10)]) fun t => Q (.exit 2) t w) n (t 0) (t 7) (t 10) w
theorem F27_3_step (K2 : Value → Value → Value → World → Prop) (n : Nat) (t : Tm) (w : World) : (F27_3 K2 (n + 1) (t 0) (t 7) (t 10) w) = rsh [(0, (.one .ptr)), (7, (.one .slc)), (10, (.one (.int .i64)))] t (fun t => vc Tryd.prog (orcOf []) [0, 0, 0, 1, 1, 1, 1, 1, 1, 1, 1, 1] (getAt F27_code [0, 0, 0, 1, 1, 1, 1, 1, 1, 1, 1, 1]) (fun o t w => match o with | .normal => F27_3 K2 n (t 0) (t 7) (t 10) w | .exit i => F27_3C K2 (.exit i) t w | .ret => F27_3C K2 .ret t w) t w) := by kernel_rfl
theorem F27_3_ok : ∀ Q t w, F27_3O Q t w → W Tryd.prog Tryd.f27.ntmps (getAt F27_code [0, 0, 1, 1, 1, 1, 1, 1, 1, 1, 1]) Q t w := by
  intro Q t w ⟨n, h⟩
  refine (W_loop (P := Tryd.prog) (b := getAt F27_code [0, 0, 0, 1, 1, 1, 1, 1, 1, 1, 1, 1]) (Q := F27_3C (fun y0 y7 y10 w => ∀ g, rsh [(0, (.one .ptr)), (7, (.one .slc)), (10, (.one (.int .i64)))] (upds g [(0, y0), (7, y7), (10, y10)]) fun t => Q (.exit 2) t w)) (G := fun n t w => F27_3 (fun y0 y7 y10 w => ∀ g, rsh [(0, (.one .ptr)), (7, (.one .slc)), (10, (.one (.int .i64)))] (upds g [(0, y0), (7, y7), (10, y10)]) fun t => Q (.exit 2) t w) n (t 0) (t 7) (t 10) w) (fun _ _ h => h) (fun n t w h => ?_) n t w h).mono ?_
  · rw [F27_3_step] at h
    exact vc_sound mixed (orcNil F27_code) _ _ rfl (okC_at F27_code_ok [0, 0, 0, 1, 1, 1, 1, 1, 1, 1, 1, 1]) _ _ _ (rsh_out h)
  · intro o t w q
    cases o with
    | normal => exact q.elim
    | exit i =>
      unfold F27_3C at q
      simp only at q
      split at q
      · rename_i hi
        rw [nbeq] at hi
        subst hi
        exact out_ok [0, 7, 10] q
      · exact q.elim
    | ret => exact q.elim
def F27_4C (K0 : Value → Value → Value → Value → World → Prop) : Post := fun o t w => match o with | .normal => False | .exit i => (match Nat.beq i 0 with | true => K0 (t 0) (t 6) (t 7) (t 8) w | false => False) | .ret => False
def F27_4B (R : Value → Value → Value → Value → Value → World → Prop) (K0 : Value → Value → Value → Value → World → Prop) (x0 : Value) (x6 : Value) (x7 : Value) (x8 : Value) (x9 : Value) (w : World) : Prop :=
  rdP x0 fun p1 => rdI .i64 x6 fun n2 => rdC x7 fun l3a l3n l3c => rdB x8 fun b4 => rdI .i64 x9 fun n5 => nn p1 fun a6 => ldC (a6.add 1) w fun l7a l7n l7c => br (decide ((n5 : Int) < (l7n : Int))) (br (!b4) (nn p1 fun a8 => ldC (a8.add 1) w fun l9a l9n l9c => ixS 1 l9a l9n n5 fun a10 => ldI .i64 a10 w fun n11 => br (decide ((n2 : Int) < n11)) (alc (.cells #[(.int .i64 n2)] 3) w fun b12 w13 => ∃ l14a l14n l14c w15, Sem.run Tryd.prog (Builtin.append_ #[54, 54] 54 #[(.slice l3a l3n l3c), (.slice (some (Addr.mk b12 0 none)) 1 1)]) w13 = .ok (.slice l14a l14n l14c) w15 ∧ (F27_2 (fun y0_15 y6_15 y7_15 y8_15 y9_15 w17 => ∀ _g18 : Tm, rdP y0_15 fun p19 => rdI .i64 y6_15 fun n20 => rdC y7_15 fun l21a l21n l21c => rdB y8_15 fun b22 => rdI .i64 y9_15 fun n23 => R (.pointer p19) (.int .i64 n20) (.slice l21a l21n l21c) (.bool b22) (.int .i64 (IntKind.wrap .i64 (n23 + 1))) w17) (.pointer p1) (.int .i64 n2) (.slice l14a l14n l14c) (.bool true) (.int .i64 n5) w15)) (F27_2 (fun y0_23 y6_23 y7_23 y8_23 y9_23 w25 => ∀ _g26 : Tm, rdP y0_23 fun p27 => rdI .i64 y6_23 fun n28 => rdC y7_23 fun l29a l29n l29c => rdB y8_23 fun b30 => rdI .i64 y9_23 fun n31 => R (.pointer p27) (.int .i64 n28) (.slice l29a l29n l29c) (.bool b30) (.int .i64 (IntKind.wrap .i64 (n31 + 1))) w25) (.pointer p1) (.int .i64 n2) (.slice l3a l3n l3c) (.bool b4) (.int .i64 n5) w)) (F27_2 (fun y0_31 y6_31 y7_31 y8_31 y9_31 w33 => ∀ _g34 : Tm, rdP y0_31 fun p35 => rdI .i64 y6_31 fun n36 => rdC y7_31 fun l37a l37n l37c => rdB y8_31 fun b38 => rdI .i64 y9_31 fun n39 => R (.pointer p35) (.int .i64 n36) (.slice l37a l37n l37c) (.bool b38) (.int .i64 (IntKind.wrap .i64 (n39 + 1))) w33) (.pointer p1) (.int .i64 n2) (.slice l3a l3n l3c) (.bool b4) (.int .i64 n5) w)) (K0 (.pointer p1) (.int .i64 n2) (.slice l3a l3n l3c) (.bool b4) w)
def F27_4 (K0 : Value → Value → Value → Value → World → Prop) : Nat → Value → Value → Value → Value → Value → World → Prop
  | 0 => fun _ _ _ _ _ _ => False
  | n + 1 => F27_4B (F27_4 K0 n) K0
def F27_4O (Q : Post) (t : Tm) (w : World) : Prop := ∃ n, F27_4 (fun y0 y6 y7 y8 w => ∀ g, rsh [(0, (.one .ptr)), (6, (.one (.int .i64))), (7, (.one .slc)), (8, (.one .bool))] (upds g [(0, y0), (6, y6), (7, y7), (8, y8)]) fun t => Q (.exit 0) t w) n (t 0) (t 6) (t 7) (t 8) (t 9) w
theorem F27_4_step (K0 : Value → Value → Value → Value → World → Prop) (n : Nat) (t : Tm) (w : World) : (F27_4 K0 (n + 1) (t 0) (t 6) (t 7) (t 8) (t 9) w) = rsh [(0, (.one .ptr)), (6, (.one (.int .i64))), (7, (.one .slc)), (8, (.one .bool)), (9, (.one (.int .i64)))] t (fun t => vc Tryd.prog (orcOf [([1, 0, 0, 1, 0, 0, 1, 0, 1, 1, 1, 1, 1, 1], F27_2O)]) [0, 0, 1, 0, 1, 1, 1, 1, 1, 1] (getAt F27_code [0, 0, 1, 0, 1, 1, 1, 1, 1, 1]) (fun o t w => match o with | .normal => F27_4 K0 n (t 0) (t 6) (t 7) (t 8) (t 9) w | .exit i => F27_4C K0 (.exit i) t w | .ret => F27_4C K0 .ret t w) t w) := by kernel_rfl
theorem F27_4_ok : ∀ Q t w, F27_4O Q t w → W Tryd.prog Tryd.f27.ntmps (getAt F27_code [0, 1, 0, 1, 1, 1, 1, 1, 1]) Q t w := by
  intro Q t w ⟨n, h⟩
  refine (W_loop (P := Tryd.prog) (b := getAt F27_code [0, 0, 1, 0, 1, 1, 1, 1, 1, 1]) (Q := F27_4C (fun y0 y6 y7 y8 w => ∀ g, rsh [(0, (.one .ptr)), (6, (.one (.int .i64))), (7, (.one .slc)), (8, (.one .bool))] (upds g [(0, y0), (6, y6), (7, y7), (8, y8)]) fun t => Q (.exit 0) t w)) (G := fun n t w => F27_4 (fun y0 y6 y7 y8 w => ∀ g, rsh [(0, (.one .ptr)), (6, (.one (.int .i64))), (7, (.one .slc)), (8, (.one .bool))] (upds g [(0, y0), (6, y6), (7, y7), (8, y8)]) fun t => Q (.exit 0) t w) n (t 0) (t 6) (t 7) (t 8) (t 9) w) (fun _ _ h => h) (fun n t w h => ?_) n t w h).mono ?_
  · rw [F27_4_step] at h
    exact vc_sound mixed (orcCons (π := [1, 0, 0, 1, 0, 0, 1, 0, 1, 1, 1, 1, 1, 1]) F27_2_ok (orcNil F27_code)) _ _ rfl (okC_at F27_code_ok [0, 0, 1, 0, 1, 1, 1, 1, 1, 1]) _ _ _ (rsh_out h)
  · intro o t w q
    cases o with
    | normal => exact q.elim
    | exit i =>
      unfold F27_4C at q
      simp only at q
      split at q
      · rename_i hi
        rw [nbeq] at hi
        subst hi
        exact out_ok [0, 6, 7, 8] q
      · exact q.elim
    | ret => exact q.elim
def F27_5C (Kr : Value → Value → World → Prop) : Post := fun o t w => match o with | .normal => False | .exit i => (False) | .ret => Kr (t 4) (t 5) w
def F27_5 (Kr : Value → Value → World → Prop) (x0 : Value) (x7 : Value) (w : World) : Prop :=
  rdP x0 fun p1 => rdC x7 fun l2a l2n l2c => ∃ k22 : Nat, F27_3 (fun y0_2 y7_2 y10_2 w4 => ∀ _g5 : Tm, rdP y0_2 fun p6 => rdC y7_2 fun l7a l7n l7c => rdI .i64 y10_2 fun n8 => nn p6 fun a9 => ldI .u32 (a9.add 0) w4 fun n10 => Calls Tryd.prog 25 #[(.int .u32 n10), (.int .u32 (IntKind.wrap .u32 (n8)))] w4 fun e13 w12 => ∃ n11, e13 = .returned (.int .u32 n11) ∧ (nn p6 fun a14 => stc (a14.add 0) (.int .u32 n11) w12 fun w15 => nn p6 fun a16 => stc (a16.add 1) (.slice none 0 0) w15 fun w17 => ∃ k21 : Nat, F27_1 (fun w19 => ∀ _g20 : Tm, Kr (.bool true) (.int .i64 0) w19) k21 (.pointer p6) (.slice l7a l7n l7c) (.int .i64 n8) (.int .i64 n8) w17)) k22 (.pointer p1) (.slice l2a l2n l2c) (.int .i64 0) w
def F27_5O (Q : Post) (t : Tm) (w : World) : Prop := F27_5 (fun y4 y5 w => ∀ g, rsh [(4, (.one .bool)), (5, (.one (.int .i64)))] (upds g [(4, y4), (5, y5)]) fun t => Q .ret t w) (t 0) (t 7) w
theorem F27_5_step (Kr : Value → Value → World → Prop) (t : Tm) (w : World) : (F27_5 Kr (t 0) (t 7) w) = rsh [(0, (.one .ptr)), (7, (.one .slc))] t (fun t => vc Tryd.prog (orcOf [([0, 1, 0, 1, 1, 1, 1, 1, 1, 1, 1, 1, 1, 1, 1], F27_1O), ([0, 0, 1, 1, 1, 1, 1, 1, 1, 1, 1], F27_3O)]) [1, 1, 1, 1, 1, 1, 1, 1] (getAt F27_code [1, 1, 1, 1, 1, 1, 1, 1]) (F27_5C Kr) t w) := by kernel_rfl
theorem F27_5_ok : ∀ Q t w, F27_5O Q t w → W Tryd.prog Tryd.f27.ntmps (getAt F27_code [1, 1, 1, 1, 1, 1, 1, 1]) Q t w := by
  intro Q t w h
  unfold F27_5O at h
  rw [F27_5_step] at h
  refine (vc_sound mixed (orcCons (π := [0, 1, 0, 1, 1, 1, 1, 1, 1, 1, 1, 1, 1, 1, 1]) F27_1_ok (orcCons (π := [0, 0, 1, 1, 1, 1, 1, 1, 1, 1, 1]) F27_3_ok (orcNil F27_code))) _ _ rfl (okC_at F27_code_ok [1, 1, 1, 1, 1, 1, 1, 1]) _ _ _ (rsh_out h)).mono ?_
  intro o t w q
  cases o with
  | normal => exact q.elim
  | exit i => exact q.elim
  | ret => exact out_ok [4, 5] q
def F27 (x0 : Value) (x1 : Value) (w : World) (K : Value → World → Prop) : Prop :=
  rdP x0 fun p1 => rdI .u32 x1 fun n2 => nn p1 fun a3 => ldI .u32 (a3.add 0) w fun n4 => Calls Tryd.prog 19 #[(.int .u32 n4), (.int .u32 n2)] w fun e7 w6 => ∃ n5, e7 = .returned (.int .i64 n5) ∧ (Calls Tryd.prog 30 #[(.pointer p1), (.int .u32 n2)] w6 fun e10 w9 => ∃ b8, e10 = .returned (.bool b8) ∧ (br b8 (K (.tuple #[(.bool false), (.int .i64 0)]) w9) (br (decide ((n5 : Int) > 65535)) (K (.tuple #[(.bool false), (.int .i64 31)]) w9) (∃ k32 : Nat, F27_4 (fun y0_10 y6_10 y7_10 y8_10 w12 => ∀ _g13 : Tm, rdP y0_10 fun p14 => rdI .i64 y6_10 fun n15 => rdC y7_10 fun l16a l16n l16c => rdB y8_10 fun b17 => br (!b17) (alc (.cells #[(.int .i64 n15)] 3) w12 fun b18 w19 => ∃ l20a l20n l20c w21, Sem.run Tryd.prog (Builtin.append_ #[54, 54] 54 #[(.slice l16a l16n l16c), (.slice (some (Addr.mk b18 0 none)) 1 1)]) w19 = .ok (.slice l20a l20n l20c) w21 ∧ (F27_5 (fun y4_21 y5_21 w23 => ∀ _g24 : Tm, rdB y4_21 fun b25 => rdI .i64 y5_21 fun n26 => K (.tuple #[(.bool b25), (.int .i64 n26)]) w23) (.pointer p14) (.slice l20a l20n l20c) w21)) (F27_5 (fun y4_26 y5_26 w28 => ∀ _g29 : Tm, rdB y4_26 fun b30 => rdI .i64 y5_26 fun n31 => K (.tuple #[(.bool b30), (.int .i64 n31)]) w28) (.pointer p14) (.slice l16a l16n l16c) w12)) k32 (.pointer p1) (.int .i64 n5) (.slice none 0 0) (.bool false) (.int .i64 0) w9))))
theorem F27_step (x0 : Value) (x1 : Value) (w : World) (K : Value → World → Prop) : (F27 x0 x1 w K) = rsh [(0, (.one .ptr)), (1, (.one (.int .u32)))] (args0 #[x0, x1]) (fun t => vc Tryd.prog (orcOf [([0, 1, 0, 1, 1, 1, 1, 1, 1, 1, 1, 1, 1, 1, 1], F27_1O), ([1, 0, 0, 1, 0, 0, 1, 0, 1, 1, 1, 1, 1, 1], F27_2O), ([0, 0, 1, 1, 1, 1, 1, 1, 1, 1, 1], F27_3O), ([0, 1, 0, 1, 1, 1, 1, 1, 1], F27_4O), ([1, 1, 1, 1, 1, 1, 1, 1], F27_5O)]) [] F27_code (retQ Tryd.prog Tryd.f27 K) t w) := by kernel_rfl
theorem F27_ok {x0 x1 : Value} {w : World} {K : Value → World → Prop} (h : F27 x0 x1 w K) : Calls Tryd.prog 27 #[x0, x1] w fun e w' => ∃ v, e = .returned v ∧ K v w' := by
  rw [F27_step] at h
  exact calls_of (c := F27_code) mixed Tryd.func27 rfl (nlt rfl) (vc_sound mixed (orcCons (π := [0, 1, 0, 1, 1, 1, 1, 1, 1, 1, 1, 1, 1, 1, 1]) F27_1_ok (orcCons (π := [1, 0, 0, 1, 0, 0, 1, 0, 1, 1, 1, 1, 1, 1]) F27_2_ok (orcCons (π := [0, 0, 1, 1, 1, 1, 1, 1, 1, 1, 1]) F27_3_ok (orcCons (π := [0, 1, 0, 1, 1, 1, 1, 1, 1]) F27_4_ok (orcCons (π := [1, 1, 1, 1, 1, 1, 1, 1]) F27_5_ok (orcNil F27_code)))))) F27_code [] rfl F27_code_ok _ _ _ (rsh_out h))

/-! (*ropewalk/spans.Set).Del -/
noncomputable def F28_code : Code := Tryd.f28.body.getD .skip
theorem F28_code_ok : okC Tryd.prog Tryd.f28.ntmps F28_code = true := by kernel_rfl
def F28 (x0 : Value) (x1 : Value) (w : World) (K : Value → World → Prop) : Prop :=
  rdP x0 fun p1 => rdI .u32 x1 fun n2 => Calls Tryd.prog 35 #[(.pointer p1)] w fun e5 w4 => ∃ b3, e5 = .returned (.bool b3) ∧ (br (!b3) (K (.bool false) w4) (Calls Tryd.prog 45 #[(.pointer p1), (.int .u32 n2)] w4 fun e8 w7 => ∃ n6, e8 = .returned (.int .i64 n6) ∧ (br (decide ((n6 : Int) > 0)) (nn p1 fun a9 => Calls Tryd.prog 49 #[(.pointer (some (a9.add 0))), (.int .i64 n6)] w7 fun e12 w11 => ∃ b10, e12 = .returned (.bool b10) ∧ (K (.bool b10) w11)) (K (.bool false) w7))))
theorem F28_step (x0 : Value) (x1 : Value) (w : World) (K : Value → World → Prop) : (F28 x0 x1 w K) = rsh [(0, (.one .ptr)), (1, (.one (.int .u32)))] (args0 #[x0, x1]) (fun t => vc Tryd.prog (orcOf []) [] F28_code (retQ Tryd.prog Tryd.f28 K) t w) := by kernel_rfl
theorem F28_ok {x0 x1 : Value} {w : World} {K : Value → World → Prop} (h : F28 x0 x1 w K) : Calls Tryd.prog 28 #[x0, x1] w fun e w' => ∃ v, e = .returned v ∧ K v w' := by
  rw [F28_step] at h
  exact calls_of (c := F28_code) mixed Tryd.func28 rfl (nlt rfl) (vc_sound mixed (orcNil F28_code) F28_code [] rfl F28_code_ok _ _ _ (rsh_out h))

/-! (*ropewalk/ropewalkref03.Set).Del -/
noncomputable def F29_code : Code := Tryd.f29.body.getD .skip
theorem F29_code_ok : okC Tryd.prog Tryd.f29.ntmps F29_code = true := by kernel_rfl
def F29_1C (K0 : Value → Value → World → Prop) : Post := fun o t w => match o with | .normal => False | .exit i => (match Nat.beq i 0 with | true => K0 (t 0) (t 6) w | false => False) | .ret => False
def F29_1B (R : Value → Value → Value → Value → World → Prop) (K0 : Value → Value → World → Prop) (x0 : Value) (x5 : Value) (x6 : Value) (x7 : Value) (w : World) : Prop :=
  rdP x0 fun p1 => rdI .i64 x5 fun n2 => rdC x6 fun l3a l3n l3c => rdI .i64 x7 fun n4 => nn p1 fun a5 => ldC (a5.add 1) w fun l6a l6n l6c => br (decide ((n4 : Int) < (l6n : Int))) (nn p1 fun a7 => ldC (a7.add 1) w fun l8a l8n l8c => ixS 1 l8a l8n n4 fun a9 => ldI .i64 a9 w fun n10 => br (n10 != n2) (nn p1 fun a11 => ldC (a11.add 1) w fun l12a l12n l12c => ixS 1 l12a l12n n4 fun a13 => ldI .i64 a13 w fun n14 => alc (.cells #[(.int .i64 n14)] 3) w fun b15 w16 => ∃ l17a l17n l17c w18, Sem.run Tryd.prog (Builtin.append_ #[54, 54] 54 #[(.slice l3a l3n l3c), (.slice (some (Addr.mk b15 0 none)) 1 1)]) w16 = .ok (.slice l17a l17n l17c) w18 ∧ (R (.pointer p1) (.int .i64 n2) (.slice l17a l17n l17c) (.int .i64 (IntKind.wrap .i64 (n4 + 1))) w18)) (R (.pointer p1) (.int .i64 n2) (.slice l3a l3n l3c) (.int .i64 (IntKind.wrap .i64 (n4 + 1))) w)) (K0 (.pointer p1) (.slice l3a l3n l3c) w)
def F29_1 (K0 : Value → Value → World → Prop) : Nat → Value → Value → Value → Value → World → Prop
  | 0 => fun _ _ _ _ _ => False
  | n + 1 => F29_1B (F29_1 K0 n) K0
def F29_1O (Q : Post) (t : Tm) (w : World) : Prop := ∃ n, F29_1 (fun y0 y6 w => ∀ g, rsh [(0, (.one .ptr)), (6, (.one .slc))] (upds g [(0, y0), (6, y6)]) fun t => Q (.exit 0) t w) n (t 0) (t 5) (t 6) (t 7) w
theorem F29_1_step (K0 : Value → Value → World → Prop) (n : Nat) (t : Tm) (w : World) : (F29_1 K0 (n + 1) (t 0) (t 5) (t 6) (t 7) w) = rsh [(0, (.one .ptr)), (5, (.one (.int .i64))), (6, (.one .slc)), (7, (.one (.int .i64)))] t (fun t => vc Tryd.prog (orcOf []) [0, 0, 1, 0, 1, 1, 1] (getAt F29_code [0, 0, 1, 0, 1, 1, 1]) (fun o t w => match o with | .normal => F29_1 K0 n (t 0) (t 5) (t 6) (t 7) w | .exit i => F29_1C K0 (.exit i) t w | .ret => F29_1C K0 .ret t w) t w) := by kernel_rfl
theorem F29_1_ok : ∀ Q t w, F29_1O Q t w → W Tryd.prog Tryd.f29.ntmps (getAt F29_code [0, 1, 0, 1, 1, 1]) Q t w := by
  intro Q t w ⟨n, h⟩
  refine (W_loop (P := Tryd.prog) (b := getAt F29_code [0, 0, 1, 0, 1, 1, 1]) (Q := F29_1C (fun y0 y6 w => ∀ g, rsh [(0, (.one .ptr)), (6, (.one .slc))] (upds g [(0, y0), (6, y6)]) fun t => Q (.exit 0) t w)) (G := fun n t w => F29_1 (fun y0 y6 w => ∀ g, rsh [(0, (.one .ptr)), (6, (.one .slc))] (upds g [(0, y0), (6, y6)]) fun t => Q (.exit 0) t w) n (t 0) (t 5) (t 6) (t 7) w) (fun _ _ h => h) (fun n t w h => ?_) n t w h).mono ?_
  · rw [F29_1_step] at h
    exact vc_sound mixed (orcNil F29_code) _ _ rfl (okC_at F29_code_ok [0, 0, 1, 0, 1, 1, 1]) _ _ _ (rsh_out h)
  · intro o t w q
    cases o with
    | normal => exact q.elim
    | exit i =>
      unfold F29_1C at q
      simp only at q
      split at q
      · rename_i hi
        rw [nbeq] at hi
        subst hi
        exact out_ok [0, 6] q
      · exact q.elim
    | ret => exact q.elim
def F29 (x0 : Value) (x1 : Value) (w : World) (K : Value → World → Prop) : Prop :=
  rdP x0 fun p1 => rdI .u32 x1 fun n2 => nn p1 fun a3 => ldI .u32 (a3.add 0) w fun n4 => Calls Tryd.prog 19 #[(.int .u32 n4), (.int .u32 n2)] w fun e7 w6 => ∃ n5, e7 = .returned (.int .i64 n5) ∧ (∃ k17 : Nat, F29_1 (fun y0_7 y6_7 w9 => ∀ _g10 : Tm, rdP y0_7 fun p11 => rdC y6_7 fun l12a l12n l12c => nn p11 fun a13 => ldC (a13.add 1) w9 fun l14a l14n l14c => nn p11 fun a15 => stc (a15.add 1) (.slice l12a l12n l12c) w9 fun w16 => K (.bool (decide (((l12n : Int) : Int) < (l14n : Int)))) w16) k17 (.pointer p1) (.int .i64 n5) (.slice none 0 0) (.int .i64 0) w6)
theorem F29_step (x0 : Value) (x1 : Value) (w : World) (K : Value → World → Prop) : (F29 x0 x1 w K) = rsh [(0, (.one .ptr)), (1, (.one (.int .u32)))] (args0 #[x0, x1]) (fun t => vc Tryd.prog (orcOf [([0, 1, 0, 1, 1, 1], F29_1O)]) [] F29_code (retQ Tryd.prog Tryd.f29 K) t w) := by kernel_rfl
theorem F29_ok {x0 x1 : Value} {w : World} {K : Value → World → Prop} (h : F29 x0 x1 w K) : Calls Tryd.prog 29 #[x0, x1] w fun e w' => ∃ v, e = .returned v ∧ K v w' := by
  rw [F29_step] at h
  exact calls_of (c := F29_code) mixed Tryd.func29 rfl (nlt rfl) (vc_sound mixed (orcCons (π := [0, 1, 0, 1, 1, 1]) F29_1_ok (orcNil F29_code)) F29_code [] rfl F29_code_ok _ _ _ (rsh_out h))

/-! (*ropewalk/ropewalkref03.Set).Has -/
noncomputable def F30_code : Code := Tryd.f30.body.getD .skip
theorem F30_code_ok : okC Tryd.prog Tryd.f30.ntmps F30_code = true := by kernel_rfl
def F30 (x0 : Value) (x1 : Value) (w : World) (K : Value → World → Prop) : Prop :=
  rdP x0 fun p1 => rdI .u32 x1 fun n2 => nn p1 fun a3 => ldI .u32 (a3.add 0) w fun n4 => Calls Tryd.prog 19 #[(.int .u32 n4), (.int .u32 n2)] w fun e7 w6 => ∃ n5, e7 = .returned (.int .i64 n5) ∧ (br (decide ((n5 : Int) ≤ 0)) (K (.bool true) w6) (Calls Tryd.prog 50 #[(.pointer p1), (.int .i64 n5)] w6 fun e10 w9 => ∃ b8, e10 = .returned (.bool b8) ∧ (K (.bool b8) w9)))
theorem F30_step (x0 : Value) (x1 : Value) (w : World) (K : Value → World → Prop) : (F30 x0 x1 w K) = rsh [(0, (.one .ptr)), (1, (.one (.int .u32)))] (args0 #[x0, x1]) (fun t => vc Tryd.prog (orcOf []) [] F30_code (retQ Tryd.prog Tryd.f30 K) t w) := by kernel_rfl
theorem F30_ok {x0 x1 : Value} {w : World} {K : Value → World → Prop} (h : F30 x0 x1 w K) : Calls Tryd.prog 30 #[x0, x1] w fun e w' => ∃ v, e = .returned v ∧ K v w' := by
  rw [F30_step] at h
  exact calls_of (c := F30_code) mixed Tryd.func30 rfl (nlt rfl) (vc_sound mixed (orcNil F30_code) F30_code [] rfl F30_code_ok _ _ _ (rsh_out h))

/-! ropewalk/ropewalkref03.Blocks -/
noncomputable def F31_code : Code := Tryd.f31.body.getD .skip
theorem F31_code_ok : okC Tryd.prog Tryd.f31.ntmps F31_code = true := by kernel_rfl
def F31_1C (K0 : World → Prop) (Kr : Value → World → Prop) : Post := fun o t w => match o with | .normal => False | .exit i => (match Nat.beq i 0 with | true => K0  w | false => False) | .ret => Kr (t 4) w
def F31_1B (R : Value → Value → Value → World → Prop) (K0 : World → Prop) (Kr : Value → World → Prop) (x0 : Value) (x1 : Value) (x5 : Value) (w : World) : Prop :=
  rdC x0 fun l1a l1n l1c => rdC x1 fun l2a l2n l2c => rdI .i64 x5 fun n3 => br (decide ((n3 : Int) < (l1n : Int))) (drw w fun w4 => ixS 2 l1a l1n n3 fun a5 => ldI .u16 (a5.add 0) w4 fun n6 => ldI .u16 (a5.add 1) w4 fun n7 => ixS 2 l2a l2n n3 fun a8 => ldI .u16 (a8.add 0) w4 fun n9 => ldI .u16 (a8.add 1) w4 fun n10 => ∃ b11 w12, Sem.run Tryd.prog (binF Tryd.prog .neq 74 (.tmp 20) (.tmp 24) (.agg #[(.int .u16 n6), (.int .u16 n7)]) (.agg #[(.int .u16 n9), (.int .u16 n10)])) w4 = .ok (.bool b11) w12 ∧ (br b11 (Kr (.bool false) w12) (R (.slice l1a l1n l1c) (.slice l2a l2n l2c) (.int .i64 (IntKind.wrap .i64 (n3 + 1))) w12))) (K0 w)
def F31_1 (K0 : World → Prop) (Kr : Value → World → Prop) : Nat → Value → Value → Value → World → Prop
  | 0 => fun _ _ _ _ => False
  | n + 1 => F31_1B (F31_1 K0 Kr n) K0 Kr
def F31_1O (Q : Post) (t : Tm) (w : World) : Prop := ∃ n, F31_1 (fun w => ∀ g, rsh [] (upds g []) fun t => Q (.exit 0) t w) (fun y4 w => ∀ g, rsh [(4, (.one .bool))] (upds g [(4, y4)]) fun t => Q .ret t w) n (t 0) (t 1) (t 5) w
theorem F31_1_step (K0 : World → Prop) (Kr : Value → World → Prop) (n : Nat) (t : Tm) (w : World) : (F31_1 K0 Kr (n + 1) (t 0) (t 1) (t 5) w) = rsh [(0, (.one .slc)), (1, (.one .slc)), (5, (.one (.int .i64)))] t (fun t => vc Tryd.prog (orcOf []) [0, 0, 1, 0, 1, 1] (getAt F31_code [0, 0, 1, 0, 1, 1]) (fun o t w => match o with | .normal => F31_1 K0 Kr n (t 0) (t 1) (t 5) w | .exit i => F31_1C K0 Kr (.exit i) t w | .ret => F31_1C K0 Kr .ret t w) t w) := by kernel_rfl
theorem F31_1_ok : ∀ Q t w, F31_1O Q t w → W Tryd.prog Tryd.f31.ntmps (getAt F31_code [0, 1, 0, 1, 1]) Q t w := by
  intro Q t w ⟨n, h⟩
  refine (W_loop (P := Tryd.prog) (b := getAt F31_code [0, 0, 1, 0, 1, 1]) (Q := F31_1C (fun w => ∀ g, rsh [] (upds g []) fun t => Q (.exit 0) t w) (fun y4 w => ∀ g, rsh [(4, (.one .bool))] (upds g [(4, y4)]) fun t => Q .ret t w)) (G := fun n t w => F31_1 (fun w => ∀ g, rsh [] (upds g []) fun t => Q (.exit 0) t w) (fun y4 w => ∀ g, rsh [(4, (.one .bool))] (upds g [(4, y4)]) fun t => Q .ret t w) n (t 0) (t 1) (t 5) w) (fun _ _ h => h) (fun n t w h => ?_) n t w h).mono ?_
  · rw [F31_1_step] at h
    exact vc_sound mixed (orcNil F31_code) _ _ rfl (okC_at F31_code_ok [0, 0, 1, 0, 1, 1]) _ _ _ (rsh_out h)
  · intro o t w q
    cases o with
    | normal => exact q.elim
    | exit i =>
      unfold F31_1C at q
      simp only at q
      split at q
      · rename_i hi
        rw [nbeq] at hi
        subst hi
        exact out_ok [] q
      · exact q.elim
    | ret => exact out_ok [4] q
def F31 (x0 : Value) (x1 : Value) (w : World) (K : Value → World → Prop) : Prop :=
  rdC x0 fun l1a l1n l1c => rdC x1 fun l2a l2n l2c => br ((l1n : Int) != (l2n : Int)) (K (.bool false) w) (∃ k10 : Nat, F31_1 (fun w4 => ∀ _g5 : Tm, K (.bool true) w4) (fun y4_5 w7 => ∀ _g8 : Tm, rdB y4_5 fun b9 => K (.bool b9) w7) k10 (.slice l1a l1n l1c) (.slice l2a l2n l2c) (.int .i64 0) w)
theorem F31_step (x0 : Value) (x1 : Value) (w : World) (K : Value → World → Prop) : (F31 x0 x1 w K) = rsh [(0, (.one .slc)), (1, (.one .slc))] (args0 #[x0, x1]) (fun t => vc Tryd.prog (orcOf [([0, 1, 0, 1, 1], F31_1O)]) [] F31_code (retQ Tryd.prog Tryd.f31 K) t w) := by kernel_rfl
theorem F31_ok {x0 x1 : Value} {w : World} {K : Value → World → Prop} (h : F31 x0 x1 w K) : Calls Tryd.prog 31 #[x0, x1] w fun e w' => ∃ v, e = .returned v ∧ K v w' := by
  rw [F31_step] at h
  exact calls_of (c := F31_code) mixed Tryd.func31 rfl (nlt rfl) (vc_sound mixed (orcCons (π := [0, 1, 0, 1, 1]) F31_1_ok (orcNil F31_code)) F31_code [] rfl F31_code_ok _ _ _ (rsh_out h))

/-! (*ropewalk/ropewalkref03.Set).Gaps -/
noncomputable def F32_code : Code := Tryd.f32.body.getD .skip
theorem F32_code_ok : okC Tryd.prog Tryd.f32.ntmps F32_code = true := by kernel_rfl
def F32_1C (K1 : Value → Value → Value → Value → World → Prop) (Kn : Value → Value → Value → Value → World → Prop) : Post := fun o t w => match o with | .normal => Kn (t 0) (t 1) (t 5) (t 6) w | .exit i => (match Nat.beq i 1 with | true => K1 (t 0) (t 1) (t 5) (t 6) w | false => False) | .ret => False
def F32_1 (K1 : Value → Value → Value → Value → World → Prop) (Kn : Value → Value → Value → Value → World → Prop) (x0 : Value) (x1 : Value) (x5 : Value) (x6 : Value) (x36 : Value) (w : World) : Prop :=
  rdP x0 fun p1 => rdI .i64 x1 fun n2 => rdC x5 fun l3a l3n l3c => rdI .i64 x6 fun n4 => rdB x36 fun b5 => br b5 (ixS 2 l3a l3n (IntKind.wrap .i64 ((l3n : Int) - 1)) fun a6 => ldI .u16 (a6.add 1) w fun n7 => ixS 2 l3a l3n (IntKind.wrap .i64 ((l3n : Int) - 1)) fun a8 => stc (a8.add 1) (.int .u16 (IntKind.wrap .u16 (n7 + 1))) w fun w9 => K1 (.pointer p1) (.int .i64 n2) (.slice l3a l3n l3c) (.int .i64 n4) w9) (Kn (.pointer p1) (.int .i64 n2) (.slice l3a l3n l3c) (.int .i64 n4) w)
def F32_1O (Q : Post) (t : Tm) (w : World) : Prop := F32_1 (fun y0 y1 y5 y6 w => ∀ g, rsh [(0, (.one .ptr)), (1, (.one (.int .i64))), (5, (.one .slc)), (6, (.one (.int .i64)))] (upds g [(0, y0), (1, y1), (5, y5), (6, y6)]) fun t => Q (.exit 1) t w) (fun y0 y1 y5 y6 w => ∀ g, rsh [(0, (.one .ptr)), (1, (.one (.int .i64))), (5, (.one .slc)), (6, (.one (.int .i64)))] (upds g [(0, y0), (1, y1), (5, y5), (6, y6)]) fun t => Q .normal t w) (t 0) (t 1) (t 5) (t 6) (t 36) w
theorem F32_1_step (K1 : Value → Value → Value → Value → World → Prop) (Kn : Value → Value → Value → Value → World → Prop) (t : Tm) (w : World) : (F32_1 K1 Kn (t 0) (t 1) (t 5) (t 6) (t 36) w) = rsh [(0, (.one .ptr)), (1, (.one (.int .i64))), (5, (.one .slc)), (6, (.one (.int .i64))), (36, (.one .bool))] t (fun t => vc Tryd.prog (orcOf []) [1, 0, 0, 0, 1, 0, 0, 1, 0, 1, 1] (getAt F32_code [1, 0, 0, 0, 1, 0, 0, 1, 0, 1, 1]) (F32_1C K1 Kn) t w) := by kernel_rfl
theorem F32_1_ok : ∀ Q t w, F32_1O Q t w → W Tryd.prog Tryd.f32.ntmps (getAt F32_code [1, 0, 0, 0, 1, 0, 0, 1, 0, 1, 1]) Q t w := by
  intro Q t w h
  unfold F32_1O at h
  rw [F32_1_step] at h
  refine (vc_sound mixed (orcNil F32_code) _ _ rfl (okC_at F32_code_ok [1, 0, 0, 0, 1, 0, 0, 1, 0, 1, 1]) _ _ _ (rsh_out h)).mono ?_
  intro o t w q
  cases o with
  | normal => exact out_ok [0, 1, 5, 6] q
  | exit i =>
      unfold F32_1C at q
      simp only at q
      split at q
      · rename_i hi
        rw [nbeq] at hi
        subst hi
        exact out_ok [0, 1, 5, 6] q
      · exact q.elim
  | ret => exact q.elim
def F32_2C (K0 : Value → World → Prop) (Kr : Value → World → Prop) : Post := fun o t w => match o with | .normal => False | .exit i => (match Nat.beq i 0 with | true => K0 (t 5) w | false => False) | .ret => Kr (t 4) w
def F32_2B (R : Value → Value → Value → Value → World → Prop) (K0 : Value → World → Prop) (Kr : Value → World → Prop) (x0 : Value) (x1 : Value) (x5 : Value) (x6 : Value) (w : World) : Prop :=
  rdP x0 fun p1 => rdI .i64 x1 fun n2 => rdC x5 fun l3a l3n l3c => rdI .i64 x6 fun n4 => nn p1 fun a5 => ldC (a5.add 1) w fun l6a l6n l6c => br (decide ((n4 : Int) < (l6n : Int))) (drw w fun w7 => br (decide ((n4 : Int) > 0)) (nn p1 fun a8 => ldC (a8.add 1) w7 fun l9a l9n l9c => ixS 1 l9a l9n n4 fun a10 => ldI .i64 a10 w7 fun n11 => nn p1 fun a12 => ldC (a12.add 1) w7 fun l13a l13n l13c => ixS 1 l13a l13n (IntKind.wrap .i64 (n4 - 1)) fun a14 => ldI .i64 a14 w7 fun n15 => F32_1 (fun y0_15 y1_15 y5_15 y6_15 w17 => ∀ _g18 : Tm, rdP y0_15 fun p19 => rdI .i64 y1_15 fun n20 => rdC y5_15 fun l21a l21n l21c => rdI .i64 y6_15 fun n22 => R (.pointer p19) (.int .i64 n20) (.slice l21a l21n l21c) (.int .i64 (IntKind.wrap .i64 (n22 + 1))) w17) (fun y0_22 y1_22 y5_22 y6_22 w24 => ∀ _g25 : Tm, rdP y0_22 fun p26 => rdI .i64 y1_22 fun n27 => rdC y5_22 fun l28a l28n l28c => rdI .i64 y6_22 fun n29 => br (decide (((l28n : Int) : Int) ≥ n27)) (Kr (.slice l28a l28n l28c) w24) (drw w24 fun w30 => nn p26 fun a31 => ldC (a31.add 1) w30 fun l32a l32n l32c => ixS 1 l32a l32n n29 fun a33 => ldI .i64 a33 w30 fun n34 => nn p26 fun a35 => ldC (a35.add 1) w30 fun l36a l36n l36c => ixS 1 l36a l36n n29 fun a37 => ldI .i64 a37 w30 fun n38 => alc (.cells #[(.int .u16 (IntKind.wrap .u16 (n34))), (.int .u16 (IntKind.wrap .u16 (n38)))] 74) w30 fun b39 w40 => ∃ l41a l41n l41c w42, Sem.run Tryd.prog (Builtin.append_ #[37, 37] 37 #[(.slice l28a l28n l28c), (.slice (some (Addr.mk b39 0 none)) 1 1)]) w40 = .ok (.slice l41a l41n l41c) w42 ∧ (R (.pointer p26) (.int .i64 n27) (.slice l41a l41n l41c) (.int .i64 (IntKind.wrap .i64 (n29 + 1))) w42))) (.pointer p1) (.int .i64 n2) (.slice l3a l3n l3c) (.int .i64 n4) (.bool (n11 == (IntKind.wrap .i64 (n15 + 1)))) w7) (F32_1 (fun y0_42 y1_42 y5_42 y6_42 w44 => ∀ _g45 : Tm, rdP y0_42 fun p46 => rdI .i64 y1_42 fun n47 => rdC y5_42 fun l48a l48n l48c => rdI .i64 y6_42 fun n49 => R (.pointer p46) (.int .i64 n47) (.slice l48a l48n l48c) (.int .i64 (IntKind.wrap .i64 (n49 + 1))) w44) (fun y0_49 y1_49 y5_49 y6_49 w51 => ∀ _g52 : Tm, rdP y0_49 fun p53 => rdI .i64 y1_49 fun n54 => rdC y5_49 fun l55a l55n l55c => rdI .i64 y6_49 fun n56 => br (decide (((l55n : Int) : Int) ≥ n54)) (Kr (.slice l55a l55n l55c) w51) (drw w51 fun w57 => nn p53 fun a58 => ldC (a58.add 1) w57 fun l59a l59n l59c => ixS 1 l59a l59n n56 fun a60 => ldI .i64 a60 w57 fun n61 => nn p53 fun a62 => ldC (a62.add 1) w57 fun l63a l63n l63c => ixS 1 l63a l63n n56 fun a64 => ldI .i64 a64 w57 fun n65 => alc (.cells #[(.int .u16 (IntKind.wrap .u16 (n61))), (.int .u16 (IntKind.wrap .u16 (n65)))] 74) w57 fun b66 w67 => ∃ l68a l68n l68c w69, Sem.run Tryd.prog (Builtin.append_ #[37, 37] 37 #[(.slice l55a l55n l55c), (.slice (some (Addr.mk b66 0 none)) 1 1)]) w67 = .ok (.slice l68a l68n l68c) w69 ∧ (R (.pointer p53) (.int .i64 n54) (.slice l68a l68n l68c) (.int .i64 (IntKind.wrap .i64 (n56 + 1))) w69))) (.pointer p1) (.int .i64 n2) (.slice l3a l3n l3c) (.int .i64 n4) (.bool false) w7)) (K0 (.slice l3a l3n l3c) w)
def F32_2 (K0 : Value → World → Prop) (Kr : Value → World → Prop) : Nat → Value → Value → Value → Value → World → Prop
  | 0 => fun _ _ _ _ _ => False
  | n + 1 => F32_2B (F32_2 K0 Kr n) K0 Kr
def F32_2O (Q : Post) (t : Tm) (w : World) : Prop := ∃ n, F32_2 (fun y5 w => ∀ g, rsh [(5, (.one .slc))] (upds g [(5, y5)]) fun t => Q (.exit 0) t w) (fun y4 w => ∀ g, rsh [(4, (.one .slc))] (upds g [(4, y4)]) fun t => Q .ret t w) n (t 0) (t 1) (t 5) (t 6) w
theorem F32_2_step (K0 : Value → World → Prop) (Kr : Value → World → Prop) (n : Nat) (t : Tm) (w : World) : (F32_2 K0 Kr (n + 1) (t 0) (t 1) (t 5) (t 6) w) = rsh [(0, (.one .ptr)), (1, (.one (.int .i64))), (5, (.one .slc)), (6, (.one (.int .i64)))] t (fun t => vc Tryd.prog (orcOf [([1, 0, 0, 0, 1, 0, 0, 1, 0, 1, 1], F32_1O)]) [0, 0, 1, 0, 1, 1] (getAt F32_code [0, 0, 1, 0, 1, 1]) (fun o t w => match o with | .normal => F32_2 K0 Kr n (t 0) (t 1) (t 5) (t 6) w | .exit i => F32_2C K0 Kr (.exit i) t w | .ret => F32_2C K0 Kr .ret t w) t w) := by kernel_rfl
theorem F32_2_ok : ∀ Q t w, F32_2O Q t w → W Tryd.prog Tryd.f32.ntmps (getAt F32_code [0, 1, 0, 1, 1]) Q t w := by
  intro Q t w ⟨n, h⟩
  refine (W_loop (P := Tryd.prog) (b := getAt F32_code [0, 0, 1, 0, 1, 1]) (Q := F32_2C (fun y5 w => ∀ g, rsh [(5, (.one .slc))] (upds g [(5, y5)]) fun t => Q (.exit 0) t w) (fun y4 w => ∀ g, rsh [(4, (.one .slc))] (upds g [(4, y4)]) fun t => Q .ret t w)) (G := fun n t w => F32_2 (fun y5 w => ∀ g, rsh [(5, (.one .slc))] (upds g [(5, y5)]) fun t => Q (.exit 0) t w) (fun y4 w => ∀ g, rsh [(4, (.one .slc))] (upds g [(4, y4)]) fun t => Q .ret t w) n (t 0) (t 1) (t 5) (t 6) w) (fun _ _ h => h) (fun n t w h => ?_) n t w h).mono ?_
  · rw [F32_2_step] at h
    exact vc_sound mixed (orcCons (π := [1, 0, 0, 0, 1, 0, 0, 1, 0, 1, 1]) F32_1_ok (orcNil F32_code)) _ _ rfl (okC_at F32_code_ok [0, 0, 1, 0, 1, 1]) _ _ _ (rsh_out h)
  · intro o t w q
    cases o with
    | normal => exact q.elim
    | exit i =>
      unfold F32_2C at q
      simp only at q
      split at q
      · rename_i hi
        rw [nbeq] at hi
        subst hi
        exact out_ok [5] q
      · exact q.elim
    | ret => exact out_ok [4] q
def F32 (x0 : Value) (x1 : Value) (w : World) (K : Value → World → Prop) : Prop :=
  rdP x0 fun p1 => rdI .i64 x1 fun n2 => ∃ k11 : Nat, F32_2 (fun y5_2 w4 => ∀ _g5 : Tm, rdC y5_2 fun l6a l6n l6c => K (.slice l6a l6n l6c) w4) (fun y4_6 w8 => ∀ _g9 : Tm, rdC y4_6 fun l10a l10n l10c => K (.slice l10a l10n l10c) w8) k11 (.pointer p1) (.int .i64 n2) (.slice none 0 0) (.int .i64 0) w
theorem F32_step (x0 : Value) (x1 : Value) (w : World) (K : Value → World → Prop) : (F32 x0 x1 w K) = rsh [(0, (.one .ptr)), (1, (.one (.int .i64)))] (args0 #[x0, x1]) (fun t => vc Tryd.prog (orcOf [([1, 0, 0, 0, 1, 0, 0, 1, 0, 1, 1], F32_1O), ([0, 1, 0, 1, 1], F32_2O)]) [] F32_code (retQ Tryd.prog Tryd.f32 K) t w) := by kernel_rfl
theorem F32_ok {x0 x1 : Value} {w : World} {K : Value → World → Prop} (h : F32 x0 x1 w K) : Calls Tryd.prog 32 #[x0, x1] w fun e w' => ∃ v, e = .returned v ∧ K v w' := by
  rw [F32_step] at h
  exact calls_of (c := F32_code) mixed Tryd.func32 rfl (nlt rfl) (vc_sound mixed (orcCons (π := [1, 0, 0, 0, 1, 0, 0, 1, 0, 1, 1]) F32_1_ok (orcCons (π := [0, 1, 0, 1, 1]) F32_2_ok (orcNil F32_code))) F32_code [] rfl F32_code_ok _ _ _ (rsh_out h))

/-! (*ropewalk/ropewalkref03.Set).Missing -/
noncomputable def F33_code : Code := Tryd.f33.body.getD .skip
theorem F33_code_ok : okC Tryd.prog Tryd.f33.ntmps F33_code = true := by kernel_rfl
def F33_1C (K2 : Value → Value → Value → Value → Value → World → Prop) (Kr : Value → World → Prop) : Post := fun o t w => match o with | .normal => False | .exit i => (match Nat.beq i 2 with | true => K2 (t 0) (t 1) (t 5) (t 6) (t 7) w | false => False) | .ret => Kr (t 4) w
def F33_1B (R : Value → Value → Value → Value → Value → World → Prop) (K2 : Value → Value → Value → Value → Value → World → Prop) (Kr : Value → World → Prop) (x0 : Value) (x1 : Value) (x5 : Value) (x6 : Value) (x7 : Value) (w : World) : Prop :=
  rdP x0 fun p1 => rdI .i64 x1 fun n2 => rdC x5 fun l3a l3n l3c => rdI .i64 x6 fun n4 => rdI .i64 x7 fun n5 => nn p1 fun a6 => ldC (a6.add 1) w fun l7a l7n l7c => ixS 1 l7a l7n n5 fun a8 => ldI .i64 a8 w fun n9 => br (decide ((n4 : Int) < n9)) (br (decide (((l3n : Int) : Int) ≥ n2)) (Kr (.slice l3a l3n l3c) w) (nn p1 fun a10 => ldI .u32 (a10.add 0) w fun n11 => Calls Tryd.prog 25 #[(.int .u32 n11), (.int .u32 (IntKind.wrap .u32 (n4)))] w fun e14 w13 => ∃ n12, e14 = .returned (.int .u32 n12) ∧ (alc (.cells #[(.int .u32 n12)] 22) w13 fun b15 w16 => ∃ l17a l17n l17c w18, Sem.run Tryd.prog (Builtin.append_ #[30, 30] 30 #[(.slice l3a l3n l3c), (.slice (some (Addr.mk b15 0 none)) 1 1)]) w16 = .ok (.slice l17a l17n l17c) w18 ∧ (R (.pointer p1) (.int .i64 n2) (.slice l17a l17n l17c) (.int .i64 (IntKind.wrap .i64 (n4 + 1))) (.int .i64 n5) w18)))) (K2 (.pointer p1) (.int .i64 n2) (.slice l3a l3n l3c) (.int .i64 n4) (.int .i64 n5) w)
def F33_1 (K2 : Value → Value → Value → Value → Value → World → Prop) (Kr : Value → World → Prop) : Nat → Value → Value → Value → Value → Value → World → Prop
  | 0 => fun _ _ _ _ _ _ => False
  | n + 1 => F33_1B (F33_1 K2 Kr n) K2 Kr
def F33_1O (Q : Post) (t : Tm) (w : World) : Prop := ∃ n, F33_1 (fun y0 y1 y5 y6 y7 w => ∀ g, rsh [(0, (.one .ptr)), (1, (.one (.int .i64))), (5, (.one .slc)), (6, (.one (.int .i64))), (7, (.one (.int .i64)))] (upds g [(0, y0), (1, y1), (5, y5), (6, y6), (7, y7)]) fun t => Q (.exit 2) t w) (fun y4 w => ∀ g, rsh [(4, (.one .slc))] (upds g [(4, y4)]) fun t => Q .ret t w) n (t 0) (t 1) (t 5) (t 6) (t 7) w
theorem F33_1_step (K2 : Value → Value → Value → Value → Value → World → Prop) (Kr : Value → World → Prop) (n : Nat) (t : Tm) (w : World) : (F33_1 K2 Kr (n + 1) (t 0) (t 1) (t 5) (t 6) (t 7) w) = rsh [(0, (.one .ptr)), (1, (.one (.int .i64))), (5, (.one .slc)), (6, (.one (.int .i64))), (7, (.one (.int .i64)))] t (fun t => vc Tryd.prog (orcOf []) [0, 0, 0, 0, 0, 1, 0, 0, 1, 0, 1, 1, 1] (getAt F33_code [0, 0, 0, 0, 0, 1, 0, 0, 1, 0, 1, 1, 1]) (fun o t w => match o with | .normal => F33_1 K2 Kr n (t 0) (t 1) (t 5) (t 6) (t 7) w | .exit i => F33_1C K2 Kr (.exit i) t w | .ret => F33_1C K2 Kr .ret t w) t w) := by kernel_rfl
theorem F33_1_ok : ∀ Q t w, F33_1O Q t w → W Tryd.prog Tryd.f33.ntmps (getAt F33_code [0, 0, 0, 0, 1, 0, 0, 1, 0, 1, 1, 1]) Q t w := by
  intro Q t w ⟨n, h⟩
  refine (W_loop (P := Tryd.prog) (b := getAt F33_code [0, 0, 0, 0, 0, 1, 0, 0, 1, 0, 1, 1, 1]) (Q := F33_1C (fun y0 y1 y5 y6 y7 w => ∀ g, rsh [(0, (.one .ptr)), (1, (.one (.int .i64))), (5, (.one .slc)), (6, (.one (.int .i64))), (7, (.one (.int .i64)))] (upds g [(0, y0), (1, y1), (5, y5), (6, y6), (7, y7)]) fun t => Q (.exit 2) t w) (fun y4 w => ∀ g, rsh [(4, (.one .slc))] (upds g [(4, y4)]) fun t => Q .ret t w)) (G := fun n t w => F33_1 (fun y0 y1 y5 y6 y7 w => ∀ g, rsh [(0, (.one .ptr)), (1, (.one (.int .i64))), (5, (.one .slc)), (6, (.one (.int .i64))), (7, (.one (.int .i64)))] (upds g [(0, y0), (1, y1), (5, y5), (6, y6), (7, y7)]) fun t => Q (.exit 2) t w) (fun y4 w => ∀ g, rsh [(4, (.one .slc))] (upds g [(4, y4)]) fun t => Q .ret t w) n (t 0) (t 1) (t 5) (t 6) (t 7) w) (fun _ _ h => h) (fun n t w h => ?_) n t w h).mono ?_
  · rw [F33_1_step] at h
    exact vc_sound mixed (orcNil F33_code) _ _ rfl (okC_at F33_code_ok [0, 0, 0, 0, 0, 1, 0, 0, 1, 0, 1, 1, 1]) _ _ _ (rsh_out h)
  · intro o t w q
    cases o with
    | normal => exact q.elim
    | exit i =>
      unfold F33_1C at q
      simp only at q
      split at q
      · rename_i hi
        rw [nbeq] at hi
        subst hi
        exact out_ok [0, 1, 5, 6, 7] q
      · exact q.elim
    | ret => exact out_ok [4] q
def F33_2C (K0 : Value → World → Prop) (Kr : Value → World → Prop) : Post := fun o t w => match o with | .normal => False | .exit i => (match Nat.beq i 0 with | true => K0 (t 5) w | false => False) | .ret => Kr (t 4) w
def F33_2B (R : Value → Value → Value → Value → Value → World → Prop) (K0 : Value → World → Prop) (Kr : Value → World → Prop) (x0 : Value) (x1 : Value) (x5 : Value) (x6 : Value) (x7 : Value) (w : World) : Prop :=
  rdP x0 fun p1 => rdI .i64 x1 fun n2 => rdC x5 fun l3a l3n l3c => rdI .i64 x6 fun n4 => rdI .i64 x7 fun n5 => nn p1 fun a6 => ldC (a6.add 1) w fun l7a l7n l7c => br (decide ((n5 : Int) < (l7n : Int))) (∃ k20 : Nat, F33_1 (fun y0_7 y1_7 y5_7 y6_7 y7_7 w9 => ∀ _g10 : Tm, rdP y0_7 fun p11 => rdI .i64 y1_7 fun n12 => rdC y5_7 fun l13a l13n l13c => rdI .i64 y6_7 fun n14 => rdI .i64 y7_7 fun n15 => R (.pointer p11) (.int .i64 n12) (.slice l13a l13n l13c) (.int .i64 (IntKind.wrap .i64 (n14 + 1))) (.int .i64 (IntKind.wrap .i64 (n15 + 1))) w9) (fun y4_15 w17 => ∀ _g18 : Tm, rdC y4_15 fun l19a l19n l19c => Kr (.slice l19a l19n l19c) w17) k20 (.pointer p1) (.int .i64 n2) (.slice l3a l3n l3c) (.int .i64 n4) (.int .i64 n5) w) (K0 (.slice l3a l3n l3c) w)
def F33_2 (K0 : Value → World → Prop) (Kr : Value → World → Prop) : Nat → Value → Value → Value → Value → Value → World → Prop
  | 0 => fun _ _ _ _ _ _ => False
  | n + 1 => F33_2B (F33_2 K0 Kr n) K0 Kr
def F33_2O (Q : Post) (t : Tm) (w : World) : Prop := ∃ n, F33_2 (fun y5 w => ∀ g, rsh [(5, (.one .slc))] (upds g [(5, y5)]) fun t => Q (.exit 0) t w) (fun y4 w => ∀ g, rsh [(4, (.one .slc))] (upds g [(4, y4)]) fun t => Q .ret t w) n (t 0) (t 1) (t 5) (t 6) (t 7) w
theorem F33_2_step (K0 : Value → World → Prop) (Kr : Value → World → Prop) (n : Nat) (t : Tm) (w : World) : (F33_2 K0 Kr (n + 1) (t 0) (t 1) (t 5) (t 6) (t 7) w) = rsh [(0, (.one .ptr)), (1, (.one (.int .i64))), (5, (.one .slc)), (6, (.one (.int .i64))), (7, (.one (.int .i64)))] t (fun t => vc Tryd.prog (orcOf [([0, 0, 0, 0, 1, 0, 0, 1, 0, 1, 1, 1], F33_1O)]) [0, 0, 1, 0, 1, 1, 1] (getAt F33_code [0, 0, 1, 0, 1, 1, 1]) (fun o t w => match o with | .normal => F33_2 K0 Kr n (t 0) (t 1) (t 5) (t 6) (t 7) w | .exit i => F33_2C K0 Kr (.exit i) t w | .ret => F33_2C K0 Kr .ret t w) t w) := by kernel_rfl
theorem F33_2_ok : ∀ Q t w, F33_2O Q t w → W Tryd.prog Tryd.f33.ntmps (getAt F33_code [0, 1, 0, 1, 1, 1]) Q t w := by
  intro Q t w ⟨n, h⟩
  refine (W_loop (P := Tryd.prog) (b := getAt F33_code [0, 0, 1, 0, 1, 1, 1]) (Q := F33_2C (fun y5 w => ∀ g, rsh [(5, (.one .slc))] (upds g [(5, y5)]) fun t => Q (.exit 0) t w) (fun y4 w => ∀ g, rsh [(4, (.one .slc))] (upds g [(4, y4)]) fun t => Q .ret t w)) (G := fun n t w => F33_2 (fun y5 w => ∀ g, rsh [(5, (.one .slc))] (upds g [(5, y5)]) fun t => Q (.exit 0) t w) (fun y4 w => ∀ g, rsh [(4, (.one .slc))] (upds g [(4, y4)]) fun t => Q .ret t w) n (t 0) (t 1) (t 5) (t 6) (t 7) w) (fun _ _ h => h) (fun n t w h => ?_) n t w h).mono ?_
  · rw [F33_2_step] at h
    exact vc_sound mixed (orcCons (π := [0, 0, 0, 0, 1, 0, 0, 1, 0, 1, 1, 1]) F33_1_ok (orcNil F33_code)) _ _ rfl (okC_at F33_code_ok [0, 0, 1, 0, 1, 1, 1]) _ _ _ (rsh_out h)
  · intro o t w q
    cases o with
    | normal => exact q.elim
    | exit i =>
      unfold F33_2C at q
      simp only at q
      split at q
      · rename_i hi
        rw [nbeq] at hi
        subst hi
        exact out_ok [5] q
      · exact q.elim
    | ret => exact out_ok [4] q
def F33 (x0 : Value) (x1 : Value) (w : World) (K : Value → World → Prop) : Prop :=
  rdP x0 fun p1 => rdI .i64 x1 fun n2 => ∃ k11 : Nat, F33_2 (fun y5_2 w4 => ∀ _g5 : Tm, rdC y5_2 fun l6a l6n l6c => K (.slice l6a l6n l6c) w4) (fun y4_6 w8 => ∀ _g9 : Tm, rdC y4_6 fun l10a l10n l10c => K (.slice l10a l10n l10c) w8) k11 (.pointer p1) (.int .i64 n2) (.slice none 0 0) (.int .i64 1) (.int .i64 0) w
theorem F33_step (x0 : Value) (x1 : Value) (w : World) (K : Value → World → Prop) : (F33 x0 x1 w K) = rsh [(0, (.one .ptr)), (1, (.one (.int .i64)))] (args0 #[x0, x1]) (fun t => vc Tryd.prog (orcOf [([0, 0, 0, 0, 1, 0, 0, 1, 0, 1, 1, 1], F33_1O), ([0, 1, 0, 1, 1, 1], F33_2O)]) [] F33_code (retQ Tryd.prog Tryd.f33 K) t w) := by kernel_rfl
theorem F33_ok {x0 x1 : Value} {w : World} {K : Value → World → Prop} (h : F33 x0 x1 w K) : Calls Tryd.prog 33 #[x0, x1] w fun e w' => ∃ v, e = .returned v ∧ K v w' := by
  rw [F33_step] at h
  exact calls_of (c := F33_code) mixed Tryd.func33 rfl (nlt rfl) (vc_sound mixed (orcCons (π := [0, 0, 0, 0, 1, 0, 0, 1, 0, 1, 1, 1]) F33_1_ok (orcCons (π := [0, 1, 0, 1, 1, 1]) F33_2_ok (orcNil F33_code))) F33_code [] rfl F33_code_ok _ _ _ (rsh_out h))

/-! (*ropewalk/spans.Set).Count -/
noncomputable def F34_code : Code := Tryd.f34.body.getD .skip
theorem F34_code_ok : okC Tryd.prog Tryd.f34.ntmps F34_code = true := by kernel_rfl
def F34 (x0 : Value) (w : World) (K : Value → World → Prop) : Prop :=
  rdP x0 fun p1 => Calls Tryd.prog 35 #[(.pointer p1)] w fun e4 w3 => ∃ b2, e4 = .returned (.bool b2) ∧ (br (!b2) (K (.int .i64 0) w3) (nn p1 fun a5 => ldI .i64 ((a5.add 0).add 1) w3 fun n6 => K (.int .i64 n6) w3))
theorem F34_step (x0 : Value) (w : World) (K : Value → World → Prop) : (F34 x0 w K) = rsh [(0, (.one .ptr))] (args0 #[x0]) (fun t => vc Tryd.prog (orcOf []) [] F34_code (retQ Tryd.prog Tryd.f34 K) t w) := by kernel_rfl
theorem F34_ok {x0 : Value} {w : World} {K : Value → World → Prop} (h : F34 x0 w K) : Calls Tryd.prog 34 #[x0] w fun e w' => ∃ v, e = .returned v ∧ K v w' := by
  rw [F34_step] at h
  exact calls_of (c := F34_code) mixed Tryd.func34 rfl (nlt rfl) (vc_sound mixed (orcNil F34_code) F34_code [] rfl F34_code_ok _ _ _ (rsh_out h))

/-! (*ropewalk/spans.Set).made -/
noncomputable def F35_code : Code := Tryd.f35.body.getD .skip
theorem F35_code_ok : okC Tryd.prog Tryd.f35.ntmps F35_code = true := by kernel_rfl
def F35 (x0 : Value) (w : World) (K : Value → World → Prop) : Prop :=
  rdP x0 fun p1 => br (!(Option.isNone p1)) (nn p1 fun a2 => ldM ((a2.add 0).add 0) w fun m3 => K (.bool (!(Option.isNone m3))) w) (K (.bool false) w)
theorem F35_step (x0 : Value) (w : World) (K : Value → World → Prop) : (F35 x0 w K) = rsh [(0, (.one .ptr))] (args0 #[x0]) (fun t => vc Tryd.prog (orcOf []) [] F35_code (retQ Tryd.prog Tryd.f35 K) t w) := by kernel_rfl
theorem F35_ok {x0 : Value} {w : World} {K : Value → World → Prop} (h : F35 x0 w K) : Calls Tryd.prog 35 #[x0] w fun e w' => ∃ v, e = .returned v ∧ K v w' := by
  rw [F35_step] at h
  exact calls_of (c := F35_code) mixed Tryd.func35 rfl (nlt rfl) (vc_sound mixed (orcNil F35_code) F35_code [] rfl F35_code_ok _ _ _ (rsh_out h))

/-! (*ropewalk/spans.field).each -/
noncomputable def F36_code : Code := Tryd.f36.body.getD .skip
theorem F36_code_ok : okC Tryd.prog Tryd.f36.ntmps F36_code = true := by kernel_rfl
def F36_1C (K2 : Value → Value → Value → Value → World → Prop) : Post := fun o t w => match o with | .normal => False | .exit i => (match Nat.beq i 2 with | true => K2 (t 0) (t 1) (t 4) (t 5) w | false => False) | .ret => False
def F36_1B (R : Value → Value → Value → Value → Value → World → Prop) (K2 : Value → Value → Value → Value → World → Prop) (x0 : Value) (x1 : Value) (x4 : Value) (x5 : Value) (x6 : Value) (w : World) : Prop :=
  rdP x0 fun p1 => rdI .i64 x4 fun n2 => rdI .i64 x5 fun n3 => rdI .u64 x6 fun n4 => br (n4 != 0) (Calls Tryd.prog 51 #[(.int .u64 n4)] w fun e7 w6 => ∃ n5, e7 = .returned (.int .i64 n5) ∧ (callV Tryd.prog x1 #[(.int .i64 (IntKind.wrap .i64 ((IntKind.wrap .i64 (64 * n3)) + n5)))] w6 (.tup []) fun r9 w8 => r9 = (.tuple #[]) ∧ (R (.pointer p1) x1 (.int .i64 (IntKind.wrap .i64 (n2 - 1))) (.int .i64 n3) (.int .u64 (bitI .and .u64 n4 (IntKind.wrap .u64 (n4 - 1)))) w8))) (K2 (.pointer p1) x1 (.int .i64 n2) (.int .i64 n3) w)
def F36_1 (K2 : Value → Value → Value → Value → World → Prop) : Nat → Value → Value → Value → Value → Value → World → Prop
  | 0 => fun _ _ _ _ _ _ => False
  | n + 1 => F36_1B (F36_1 K2 n) K2
def F36_1O (Q : Post) (t : Tm) (w : World) : Prop := ∃ n, F36_1 (fun y0 y1 y4 y5 w => ∀ g, rsh [(0, (.one .ptr)), (4, (.one (.int .i64))), (5, (.one (.int .i64)))] (upds g [(0, y0), (1, y1), (4, y4), (5, y5)]) fun t => Q (.exit 2) t w) n (t 0) (t 1) (t 4) (t 5) (t 6) w
theorem F36_1_step (K2 : Value → Value → Value → Value → World → Prop) (n : Nat) (t : Tm) (w : World) : (F36_1 K2 (n + 1) (t 0) (t 1) (t 4) (t 5) (t 6) w) = rsh [(0, (.one .ptr)), (4, (.one (.int .i64))), (5, (.one (.int .i64))), (6, (.one (.int .u64)))] t (fun t => vc Tryd.prog (orcOf []) [0, 0, 1, 0, 0, 1, 0, 0, 1, 1] (getAt F36_code [0, 0, 1, 0, 0, 1, 0, 0, 1, 1]) (fun o t w => match o with | .normal => F36_1 K2 n (t 0) (t 1) (t 4) (t 5) (t 6) w | .exit i => F36_1C K2 (.exit i) t w | .ret => F36_1C K2 .ret t w) t w) := by kernel_rfl
theorem F36_1_ok : ∀ Q t w, F36_1O Q t w → W Tryd.prog Tryd.f36.ntmps (getAt F36_code [0, 1, 0, 0, 1, 0, 0, 1, 1]) Q t w := by
  intro Q t w ⟨n, h⟩
  refine (W_loop (P := Tryd.prog) (b := getAt F36_code [0, 0, 1, 0, 0, 1, 0, 0, 1, 1]) (Q := F36_1C (fun y0 y1 y4 y5 w => ∀ g, rsh [(0, (.one .ptr)), (4, (.one (.int .i64))), (5, (.one (.int .i64)))] (upds g [(0, y0), (1, y1), (4, y4), (5, y5)]) fun t => Q (.exit 2) t w)) (G := fun n t w => F36_1 (fun y0 y1 y4 y5 w => ∀ g, rsh [(0, (.one .ptr)), (4, (.one (.int .i64))), (5, (.one (.int .i64)))] (upds g [(0, y0), (1, y1), (4, y4), (5, y5)]) fun t => Q (.exit 2) t w) n (t 0) (t 1) (t 4) (t 5) (t 6) w) (fun _ _ h => h) (fun n t w h => ?_) n t w h).mono ?_
  · rw [F36_1_step] at h
    exact vc_sound mixed (orcNil F36_code) _ _ rfl (okC_at F36_code_ok [0, 0, 1, 0, 0, 1, 0, 0, 1, 1]) _ _ _ (rsh_out h)
  · intro o t w q
    cases o with
    | normal => exact q.elim
    | exit i =>
      unfold F36_1C at q
      simp only at q
      split at q
      · rename_i hi
        rw [nbeq] at hi
        subst hi
        exact out_ok [0, 1, 4, 5] q
      · exact q.elim
    | ret => exact q.elim
def F36_2C (K0 : World → Prop) : Post := fun o t w => match o with | .normal => False | .exit i => (match Nat.beq i 0 with | true => K0  w | false => False) | .ret => False
def F36_2B (R : Value → Value → Value → Value → World → Prop) (K0 : World → Prop) (x0 : Value) (x1 : Value) (x4 : Value) (x5 : Value) (w : World) : Prop :=
  rdP x0 fun p1 => rdI .i64 x4 fun n2 => rdI .i64 x5 fun n3 => br (decide ((n2 : Int) > 0)) (nn p1 fun a4 => ldM (a4.add 0) w fun m5 => ∃ n6, lookF Tryd.prog 3 78 (.map m5) (.int .i64 n3) false w = some (.int .u64 n6) ∧ (∃ k13 : Nat, F36_1 (fun y0_6 y1_6 y4_6 y5_6 w8 => ∀ _g9 : Tm, rdP y0_6 fun p10 => rdI .i64 y4_6 fun n11 => rdI .i64 y5_6 fun n12 => R (.pointer p10) y1_6 (.int .i64 n11) (.int .i64 (IntKind.wrap .i64 (n12 + 1))) w8) k13 (.pointer p1) x1 (.int .i64 n2) (.int .i64 n3) (.int .u64 n6) w)) (K0 w)
def F36_2 (K0 : World → Prop) : Nat → Value → Value → Value → Value → World → Prop
  | 0 => fun _ _ _ _ _ => False
  | n + 1 => F36_2B (F36_2 K0 n) K0
def F36_2O (Q : Post) (t : Tm) (w : World) : Prop := ∃ n, F36_2 (fun w => ∀ g, rsh [] (upds g []) fun t => Q (.exit 0) t w) n (t 0) (t 1) (t 4) (t 5) w
theorem F36_2_step (K0 : World → Prop) (n : Nat) (t : Tm) (w : World) : (F36_2 K0 (n + 1) (t 0) (t 1) (t 4) (t 5) w) = rsh [(0, (.one .ptr)), (4, (.one (.int .i64))), (5, (.one (.int .i64)))] t (fun t => vc Tryd.prog (orcOf [([0, 1, 0, 0, 1, 0, 0, 1, 1], F36_1O)]) [0, 0, 1, 1] (getAt F36_code [0, 0, 1, 1]) (fun o t w => match o with | .normal => F36_2 K0 n (t 0) (t 1) (t 4) (t 5) w | .exit i => F36_2C K0 (.exit i) t w | .ret => F36_2C K0 .ret t w) t w) := by kernel_rfl
theorem F36_2_ok : ∀ Q t w, F36_2O Q t w → W Tryd.prog Tryd.f36.ntmps (getAt F36_code [0, 1, 1]) Q t w := by
  intro Q t w ⟨n, h⟩
  refine (W_loop (P := Tryd.prog) (b := getAt F36_code [0, 0, 1, 1]) (Q := F36_2C (fun w => ∀ g, rsh [] (upds g []) fun t => Q (.exit 0) t w)) (G := fun n t w => F36_2 (fun w => ∀ g, rsh [] (upds g []) fun t => Q (.exit 0) t w) n (t 0) (t 1) (t 4) (t 5) w) (fun _ _ h => h) (fun n t w h => ?_) n t w h).mono ?_
  · rw [F36_2_step] at h
    exact vc_sound mixed (orcCons (π := [0, 1, 0, 0, 1, 0, 0, 1, 1]) F36_1_ok (orcNil F36_code)) _ _ rfl (okC_at F36_code_ok [0, 0, 1, 1]) _ _ _ (rsh_out h)
  · intro o t w q
    cases o with
    | normal => exact q.elim
    | exit i =>
      unfold F36_2C at q
      simp only at q
      split at q
      · rename_i hi
        rw [nbeq] at hi
        subst hi
        exact out_ok [] q
      · exact q.elim
    | ret => exact q.elim
def F36 (x0 : Value) (x1 : Value) (w : World) (K : Value → World → Prop) : Prop :=
  rdP x0 fun p1 => nn p1 fun a2 => ldI .i64 (a2.add 1) w fun n3 => ∃ k7 : Nat, F36_2 (fun w5 => ∀ _g6 : Tm, K (.tuple #[]) w5) k7 (.pointer p1) x1 (.int .i64 n3) (.int .i64 0) w
theorem F36_step (x0 : Value) (x1 : Value) (w : World) (K : Value → World → Prop) : (F36 x0 x1 w K) = rsh [(0, (.one .ptr))] (args0 #[x0, x1]) (fun t => vc Tryd.prog (orcOf [([0, 1, 0, 0, 1, 0, 0, 1, 1], F36_1O), ([0, 1, 1], F36_2O)]) [] F36_code (retQ Tryd.prog Tryd.f36 K) t w) := by kernel_rfl
theorem F36_ok {x0 x1 : Value} {w : World} {K : Value → World → Prop} (h : F36 x0 x1 w K) : Calls Tryd.prog 36 #[x0, x1] w fun e w' => ∃ v, e = .returned v ∧ K v w' := by
  rw [F36_step] at h
  exact calls_of (c := F36_code) mixed Tryd.func36 rfl (nlt rfl) (vc_sound mixed (orcCons (π := [0, 1, 0, 0, 1, 0, 0, 1, 1]) F36_1_ok (orcCons (π := [0, 1, 1]) F36_2_ok (orcNil F36_code))) F36_code [] rfl F36_code_ok _ _ _ (rsh_out h))

/-! (*ropewalk/spans.Set).All$1 -/
noncomputable def F37_code : Code := Tryd.f37.body.getD .skip
theorem F37_code_ok : okC Tryd.prog Tryd.f37.ntmps F37_code = true := by kernel_rfl
def F37 (x0 : Value) (x1 : Value) (x2 : Value) (w : World) (K : Value → World → Prop) : Prop :=
  rdI .i64 x0 fun n1 => rdA x1 fun a2 => rdA x2 fun a3 => drw w fun w4 => ldC a2 w4 fun l5a l5n l5c => ldP a3 w4 fun p6 => nn p6 fun a7 => ldI .u32 (a7.add 2) w4 fun n8 => alc (.cells #[(.int .u32 (IntKind.wrap .u32 (n8 + (IntKind.wrap .u32 (n1)))))] 22) w4 fun b9 w10 => Pres w4 w10 ∧ (∃ l11a l11n l11c w12, Sem.run Tryd.prog (Builtin.append_ #[30, 30] 30 #[(.slice l5a l5n l5c), (.slice (some (Addr.mk b9 0 none)) 1 1)]) w10 = .ok (.slice l11a l11n l11c) w12 ∧ (stc a2 (.slice l11a l11n l11c) w12 fun w13 => K (.tuple #[]) w13))
theorem F37_step (x0 : Value) (x1 : Value) (x2 : Value) (w : World) (K : Value → World → Prop) : (F37 x0 x1 x2 w K) = rsh [(0, (.one (.int .i64))), (1, (.one .adr)), (2, (.one .adr))] (args0 #[x0, x1, x2]) (fun t => vc Tryd.prog (orcOf []) [] F37_code (retQ Tryd.prog Tryd.f37 K) t w) := by kernel_rfl
theorem F37_ok {x0 x1 x2 : Value} {w : World} {K : Value → World → Prop} (h : F37 x0 x1 x2 w K) : Calls Tryd.prog 37 #[x0, x1, x2] w fun e w' => ∃ v, e = .returned v ∧ K v w' := by
  rw [F37_step] at h
  exact calls_of (c := F37_code) mixed Tryd.func37 rfl (nlt rfl) (vc_sound mixed (orcNil F37_code) F37_code [] rfl F37_code_ok _ _ _ (rsh_out h))

/-! (*ropewalk/spans.field).put -/
noncomputable def F38_code : Code := Tryd.f38.body.getD .skip
theorem F38_code_ok : okC Tryd.prog Tryd.f38.ntmps F38_code = true := by kernel_rfl
def F38 (x0 : Value) (x1 : Value) (w : World) (K : Value → World → Prop) : Prop :=
  rdP x0 fun p1 => rdI .i64 x1 fun n2 => Calls Tryd.prog 47 #[(.pointer p1), (.int .i64 n2)] w fun e5 w4 => ∃ b3, e5 = .returned (.bool b3) ∧ (br b3 (K (.bool false) w4) (Calls Tryd.prog 52 #[(.pointer p1), (.int .i64 n2)] w4 fun e9 w8 => ∃ n6 n7, e9 = .returned (.tuple #[(.int .i64 n6), (.int .u64 n7)]) ∧ (nn p1 fun a10 => ldM (a10.add 0) w8 fun m11 => ∃ n12, lookF Tryd.prog 3 78 (.map m11) (.int .i64 n6) false w8 = some (.int .u64 n12) ∧ (∃ w13, Sem.run Tryd.prog (Instr.mapUpdate 63 (.map m11) (.int .i64 n6) (.int .u64 (bitI .or .u64 n12 n7))) w8 = .ok () w13 ∧ (nn p1 fun a14 => ldI .i64 (a14.add 1) w13 fun n15 => nn p1 fun a16 => stc (a16.add 1) (.int .i64 (IntKind.wrap .i64 (n15 + 1))) w13 fun w17 => K (.bool true) w17)))))
theorem F38_step (x0 : Value) (x1 : Value) (w : World) (K : Value → World → Prop) : (F38 x0 x1 w K) = rsh [(0, (.one .ptr)), (1, (.one (.int .i64)))] (args0 #[x0, x1]) (fun t => vc Tryd.prog (orcOf []) [] F38_code (retQ Tryd.prog Tryd.f38 K) t w) := by kernel_rfl
theorem F38_ok {x0 x1 : Value} {w : World} {K : Value → World → Prop} (h : F38 x0 x1 w K) : Calls Tryd.prog 38 #[x0, x1] w fun e w' => ∃ v, e = .returned v ∧ K v w' := by
  rw [F38_step] at h
  exact calls_of (c := F38_code) mixed Tryd.func38 rfl (nlt rfl) (vc_sound mixed (orcNil F38_code) F38_code [] rfl F38_code_ok _ _ _ (rsh_out h))

/-! (*ropewalk/spans.Set).Gaps$1 -/
noncomputable def F39_code : Code := Tryd.f39.body.getD .skip
theorem F39_code_ok : okC Tryd.prog Tryd.f39.ntmps F39_code = true := by kernel_rfl
def F39_1C (Kn : World → Prop) : Post := fun o t w => match o with | .normal => Kn  w | .exit i => (False) | .ret => False
def F39_1 (Kn : World → Prop) (x0 : Value) (x1 : Value) (x2 : Value) (x4 : Value) (x20 : Value) (w : World) : Prop :=
  rdI .i64 x0 fun n1 => rdA x1 fun a2 => rdA x2 fun a3 => rdI .i64 x4 fun n4 => rdB x20 fun b5 => br b5 (ldC a2 w fun l6a l6n l6c => ixS 2 l6a l6n (IntKind.wrap .i64 (n4 - 1)) fun a7 => ldI .u16 (a7.add 1) w fun n8 => ixS 2 l6a l6n (IntKind.wrap .i64 (n4 - 1)) fun a9 => stc (a9.add 1) (.int .u16 (IntKind.wrap .u16 (n8 + 1))) w fun w10 => Kn w10) (ldI .i64 a3 w fun n11 => br (decide ((n4 : Int) ≤ n11)) (ldC a2 w fun l12a l12n l12c => alc (.cells #[(.int .u16 (IntKind.wrap .u16 (n1))), (.int .u16 (IntKind.wrap .u16 (n1)))] 74) w fun b13 w14 => ∃ l15a l15n l15c w16, Sem.run Tryd.prog (Builtin.append_ #[37, 37] 37 #[(.slice l12a l12n l12c), (.slice (some (Addr.mk b13 0 none)) 1 1)]) w14 = .ok (.slice l15a l15n l15c) w16 ∧ (stc a2 (.slice l15a l15n l15c) w16 fun w17 => Kn w17)) (Kn w))
def F39_1O (Q : Post) (t : Tm) (w : World) : Prop := F39_1 (fun w => ∀ g, rsh [] (upds g []) fun t => Q .normal t w) (t 0) (t 1) (t 2) (t 4) (t 20) w
theorem F39_1_step (Kn : World → Prop) (t : Tm) (w : World) : (F39_1 Kn (t 0) (t 1) (t 2) (t 4) (t 20) w) = rsh [(0, (.one (.int .i64))), (1, (.one .adr)), (2, (.one .adr)), (4, (.one (.int .i64))), (20, (.one .bool))] t (fun t => vc Tryd.prog (orcOf []) [1, 1] (getAt F39_code [1, 1]) (F39_1C Kn) t w) := by kernel_rfl
theorem F39_1_ok : ∀ Q t w, F39_1O Q t w → W Tryd.prog Tryd.f39.ntmps (getAt F39_code [1, 1]) Q t w := by
  intro Q t w h
  unfold F39_1O at h
  rw [F39_1_step] at h
  refine (vc_sound mixed (orcNil F39_code) _ _ rfl (okC_at F39_code_ok [1, 1]) _ _ _ (rsh_out h)).mono ?_
  intro o t w q
  cases o with
  | normal => exact out_ok [] q
  | exit i => exact q.elim
  | ret => exact q.elim
def F39 (x0 : Value) (x1 : Value) (x2 : Value) (w : World) (K : Value → World → Prop) : Prop :=
  rdI .i64 x0 fun n1 => rdA x1 fun a2 => rdA x2 fun a3 => ldC a2 w fun l4a l4n l4c => br (decide (((l4n : Int) : Int) > 0)) (ldC a2 w fun l5a l5n l5c => ixS 2 l5a l5n (IntKind.wrap .i64 ((l4n : Int) - 1)) fun a6 => ldI .u16 (a6.add 1) w fun n7 => F39_1 (fun w9 => ∀ _g10 : Tm, K (.tuple #[]) w9) (.int .i64 n1) (.pointer (some a2)) (.pointer (some a3)) (.int .i64 (l4n : Int)) (.bool ((IntKind.wrap .i64 (n7)) == (IntKind.wrap .i64 (n1 - 1)))) w) (F39_1 (fun w12 => ∀ _g13 : Tm, K (.tuple #[]) w12) (.int .i64 n1) (.pointer (some a2)) (.pointer (some a3)) (.int .i64 (l4n : Int)) (.bool false) w)
theorem F39_step (x0 : Value) (x1 : Value) (x2 : Value) (w : World) (K : Value → World → Prop) : (F39 x0 x1 x2 w K) = rsh [(0, (.one (.int .i64))), (1, (.one .adr)), (2, (.one .adr))] (args0 #[x0, x1, x2]) (fun t => vc Tryd.prog (orcOf [([1, 1], F39_1O)]) [] F39_code (retQ Tryd.prog Tryd.f39 K) t w) := by kernel_rfl
theorem F39_ok {x0 x1 x2 : Value} {w : World} {K : Value → World → Prop} (h : F39 x0 x1 x2 w K) : Calls Tryd.prog 39 #[x0, x1, x2] w fun e w' => ∃ v, e = .returned v ∧ K v w' := by
  rw [F39_step] at h
  exact calls_of (c := F39_code) mixed Tryd.func39 rfl (nlt rfl) (vc_sound mixed (orcCons (π := [1, 1]) F39_1_ok (orcNil F39_code)) F39_code [] rfl F39_code_ok _ _ _ (rsh_out h))

/-! (*ropewalk/ropewalkref03.Set).High -/
noncomputable def F40_code : Code := Tryd.f40.body.getD .skip
theorem F40_code_ok : okC Tryd.prog Tryd.f40.ntmps F40_code = true := by kernel_rfl
def F40 (x0 : Value) (w : World) (K : Value → World → Prop) : Prop :=
  rdP x0 fun p1 => nn p1 fun a2 => ldC (a2.add 1) w fun l3a l3n l3c => br ((l3n : Int) == 0) (nn p1 fun a4 => ldI .u32 (a4.add 0) w fun n5 => K (.int .u32 n5) w) (drw w fun w6 => nn p1 fun a7 => ldI .u32 (a7.add 0) w6 fun n8 => nn p1 fun a9 => ldC (a9.add 1) w6 fun l10a l10n l10c => nn p1 fun a11 => ldC (a11.add 1) w6 fun l12a l12n l12c => ixS 1 l10a l10n (IntKind.wrap .i64 ((l12n : Int) - 1)) fun a13 => ldI .i64 a13 w6 fun n14 => Calls Tryd.prog 25 #[(.int .u32 n8), (.int .u32 (IntKind.wrap .u32 (n14)))] w6 fun e17 w16 => ∃ n15, e17 = .returned (.int .u32 n15) ∧ (K (.int .u32 n15) w16))
theorem F40_step (x0 : Value) (w : World) (K : Value → World → Prop) : (F40 x0 w K) = rsh [(0, (.one .ptr))] (args0 #[x0]) (fun t => vc Tryd.prog (orcOf []) [] F40_code (retQ Tryd.prog Tryd.f40 K) t w) := by kernel_rfl
theorem F40_ok {x0 : Value} {w : World} {K : Value → World → Prop} (h : F40 x0 w K) : Calls Tryd.prog 40 #[x0] w fun e w' => ∃ v, e = .returned v ∧ K v w' := by
  rw [F40_step] at h
  exact calls_of (c := F40_code) mixed Tryd.func40 rfl (nlt rfl) (vc_sound mixed (orcNil F40_code) F40_code [] rfl F40_code_ok _ _ _ (rsh_out h))

/-! (*ropewalk/ropewalkref03.Set).All -/
noncomputable def F41_code : Code := Tryd.f41.body.getD .skip
theorem F41_code_ok : okC Tryd.prog Tryd.f41.ntmps F41_code = true := by kernel_rfl
def F41_1C (K0 : Value → World → Prop) : Post := fun o t w => match o with | .normal => False | .exit i => (match Nat.beq i 0 with | true => K0 (t 3) w | false => False) | .ret => False
def F41_1B (R : Value → Value → Value → World → Prop) (K0 : Value → World → Prop) (x0 : Value) (x3 : Value) (x4 : Value) (w : World) : Prop :=
  rdP x0 fun p1 => rdC x3 fun l2a l2n l2c => rdI .i64 x4 fun n3 => nn p1 fun a4 => ldC (a4.add 1) w fun l5a l5n l5c => br (decide ((n3 : Int) < (l5n : Int))) (drw w fun w6 => nn p1 fun a7 => ldI .u32 (a7.add 0) w6 fun n8 => nn p1 fun a9 => ldC (a9.add 1) w6 fun l10a l10n l10c => ixS 1 l10a l10n n3 fun a11 => ldI .i64 a11 w6 fun n12 => Calls Tryd.prog 25 #[(.int .u32 n8), (.int .u32 (IntKind.wrap .u32 (n12)))] w6 fun e15 w14 => ∃ n13, e15 = .returned (.int .u32 n13) ∧ (alc (.cells #[(.int .u32 n13)] 22) w14 fun b16 w17 => ∃ l18a l18n l18c w19, Sem.run Tryd.prog (Builtin.append_ #[30, 30] 30 #[(.slice l2a l2n l2c), (.slice (some (Addr.mk b16 0 none)) 1 1)]) w17 = .ok (.slice l18a l18n l18c) w19 ∧ (R (.pointer p1) (.slice l18a l18n l18c) (.int .i64 (IntKind.wrap .i64 (n3 + 1))) w19))) (K0 (.slice l2a l2n l2c) w)
def F41_1 (K0 : Value → World → Prop) : Nat → Value → Value → Value → World → Prop
  | 0 => fun _ _ _ _ => False
  | n + 1 => F41_1B (F41_1 K0 n) K0
def F41_1O (Q : Post) (t : Tm) (w : World) : Prop := ∃ n, F41_1 (fun y3 w => ∀ g, rsh [(3, (.one .slc))] (upds g [(3, y3)]) fun t => Q (.exit 0) t w) n (t 0) (t 3) (t 4) w
theorem F41_1_step (K0 : Value → World → Prop) (n : Nat) (t : Tm) (w : World) : (F41_1 K0 (n + 1) (t 0) (t 3) (t 4) w) = rsh [(0, (.one .ptr)), (3, (.one .slc)), (4, (.one (.int .i64)))] t (fun t => vc Tryd.prog (orcOf []) [0, 0, 1, 0, 1, 1] (getAt F41_code [0, 0, 1, 0, 1, 1]) (fun o t w => match o with | .normal => F41_1 K0 n (t 0) (t 3) (t 4) w | .exit i => F41_1C K0 (.exit i) t w | .ret => F41_1C K0 .ret t w) t w) := by kernel_rfl
theorem F41_1_ok : ∀ Q t w, F41_1O Q t w → W Tryd.prog Tryd.f41.ntmps (getAt F41_code [0, 1, 0, 1, 1]) Q t w := by
  intro Q t w ⟨n, h⟩
  refine (W_loop (P := Tryd.prog) (b := getAt F41_code [0, 0, 1, 0, 1, 1]) (Q := F41_1C (fun y3 w => ∀ g, rsh [(3, (.one .slc))] (upds g [(3, y3)]) fun t => Q (.exit 0) t w)) (G := fun n t w => F41_1 (fun y3 w => ∀ g, rsh [(3, (.one .slc))] (upds g [(3, y3)]) fun t => Q (.exit 0) t w) n (t 0) (t 3) (t 4) w) (fun _ _ h => h) (fun n t w h => ?_) n t w h).mono ?_
  · rw [F41_1_step] at h
    exact vc_sound mixed (orcNil F41_code) _ _ rfl (okC_at F41_code_ok [0, 0, 1, 0, 1, 1]) _ _ _ (rsh_out h)
  · intro o t w q
    cases o with
    | normal => exact q.elim
    | exit i =>
      unfold F41_1C at q
      simp only at q
      split at q
      · rename_i hi
        rw [nbeq] at hi
        subst hi
        exact out_ok [3] q
      · exact q.elim
    | ret => exact q.elim
def F41 (x0 : Value) (w : World) (K : Value → World → Prop) : Prop :=
  rdP x0 fun p1 => ∃ k6 : Nat, F41_1 (fun y3_1 w3 => ∀ _g4 : Tm, rdC y3_1 fun l5a l5n l5c => K (.slice l5a l5n l5c) w3) k6 (.pointer p1) (.slice none 0 0) (.int .i64 0) w
theorem F41_step (x0 : Value) (w : World) (K : Value → World → Prop) : (F41 x0 w K) = rsh [(0, (.one .ptr))] (args0 #[x0]) (fun t => vc Tryd.prog (orcOf [([0, 1, 0, 1, 1], F41_1O)]) [] F41_code (retQ Tryd.prog Tryd.f41 K) t w) := by kernel_rfl
theorem F41_ok {x0 : Value} {w : World} {K : Value → World → Prop} (h : F41 x0 w K) : Calls Tryd.prog 41 #[x0] w fun e w' => ∃ v, e = .returned v ∧ K v w' := by
  rw [F41_step] at h
  exact calls_of (c := F41_code) mixed Tryd.func41 rfl (nlt rfl) (vc_sound mixed (orcCons (π := [0, 1, 0, 1, 1]) F41_1_ok (orcNil F41_code)) F41_code [] rfl F41_code_ok _ _ _ (rsh_out h))

/-! (*ropewalk/spans.Set).Missing$1 -/
noncomputable def F42_code : Code := Tryd.f42.body.getD .skip
theorem F42_code_ok : okC Tryd.prog Tryd.f42.ntmps F42_code = true := by kernel_rfl
def F42_1C (Kn : Value → Value → Value → Value → Value → World → Prop) : Post := fun o t w => match o with | .normal => Kn (t 0) (t 1) (t 2) (t 3) (t 4) w | .exit i => (False) | .ret => False
def F42_1 (Kn : Value → Value → Value → Value → Value → World → Prop) (x0 : Value) (x1 : Value) (x2 : Value) (x3 : Value) (x4 : Value) (w : World) : Prop :=
  rdI .i64 x0 fun n1 => rdA x1 fun a2 => rdA x2 fun a3 => rdA x3 fun a4 => rdA x4 fun a5 => drw w fun w6 => ldC a3 w6 fun l7a l7n l7c => ldP a5 w6 fun p8 => nn p8 fun a9 => ldI .u32 (a9.add 2) w6 fun n10 => ldI .i64 a2 w6 fun n11 => alc (.cells #[(.int .u32 (IntKind.wrap .u32 (n10 + (IntKind.wrap .u32 (n11)))))] 22) w6 fun b12 w13 => Pres w6 w13 ∧ (∃ l14a l14n l14c w15, Sem.run Tryd.prog (Builtin.append_ #[30, 30] 30 #[(.slice l7a l7n l7c), (.slice (some (Addr.mk b12 0 none)) 1 1)]) w13 = .ok (.slice l14a l14n l14c) w15 ∧ (stc a3 (.slice l14a l14n l14c) w15 fun w16 => ldI .i64 a2 w16 fun n17 => stc a2 (.int .i64 (IntKind.wrap .i64 (n17 + 1))) w16 fun w18 => Kn (.int .i64 n1) (.pointer (some a2)) (.pointer (some a3)) (.pointer (some a4)) (.pointer (some a5)) w18))
def F42_1O (Q : Post) (t : Tm) (w : World) : Prop := F42_1 (fun y0 y1 y2 y3 y4 w => ∀ g, rsh [(0, (.one (.int .i64))), (1, (.one .adr)), (2, (.one .adr)), (3, (.one .adr)), (4, (.one .adr))] (upds g [(0, y0), (1, y1), (2, y2), (3, y3), (4, y4)]) fun t => Q .normal t w) (t 0) (t 1) (t 2) (t 3) (t 4) w
theorem F42_1_step (Kn : Value → Value → Value → Value → Value → World → Prop) (t : Tm) (w : World) : (F42_1 Kn (t 0) (t 1) (t 2) (t 3) (t 4) w) = rsh [(0, (.one (.int .i64))), (1, (.one .adr)), (2, (.one .adr)), (3, (.one .adr)), (4, (.one .adr))] t (fun t => vc Tryd.prog (orcOf []) [1, 0, 0, 0] (getAt F42_code [1, 0, 0, 0]) (F42_1C Kn) t w) := by kernel_rfl
theorem F42_1_ok : ∀ Q t w, F42_1O Q t w → W Tryd.prog Tryd.f42.ntmps (getAt F42_code [1, 0, 0, 0]) Q t w := by
  intro Q t w h
  unfold F42_1O at h
  rw [F42_1_step] at h
  refine (vc_sound mixed (orcNil F42_code) _ _ rfl (okC_at F42_code_ok [1, 0, 0, 0]) _ _ _ (rsh_out h)).mono ?_
  intro o t w q
  cases o with
  | normal => exact out_ok [0, 1, 2, 3, 4] q
  | exit i => exact q.elim
  | ret => exact q.elim
def F42_2C (K0 : Value → Value → World → Prop) : Post := fun o t w => match o with | .normal => False | .exit i => (match Nat.beq i 0 with | true => K0 (t 0) (t 1) w | false => False) | .ret => False
def F42_2B (R : Value → Value → Value → Value → Value → World → Prop) (K0 : Value → Value → World → Prop) (x0 : Value) (x1 : Value) (x2 : Value) (x3 : Value) (x4 : Value) (w : World) : Prop :=
  rdI .i64 x0 fun n1 => rdA x1 fun a2 => rdA x2 fun a3 => rdA x3 fun a4 => rdA x4 fun a5 => ldI .i64 a2 w fun n6 => br (decide ((n6 : Int) < n1)) (ldC a3 w fun l7a l7n l7c => ldI .i64 a4 w fun n8 => br (decide (((l7n : Int) : Int) < n8)) (F42_1 (fun y0_8 y1_8 y2_8 y3_8 y4_8 w10 => ∀ _g11 : Tm, rdI .i64 y0_8 fun n12 => rdA y1_8 fun a13 => rdA y2_8 fun a14 => rdA y3_8 fun a15 => rdA y4_8 fun a16 => R (.int .i64 n12) (.pointer (some a13)) (.pointer (some a14)) (.pointer (some a15)) (.pointer (some a16)) w10) (.int .i64 n1) (.pointer (some a2)) (.pointer (some a3)) (.pointer (some a4)) (.pointer (some a5)) w) (K0 (.int .i64 n1) (.pointer (some a2)) w)) (K0 (.int .i64 n1) (.pointer (some a2)) w)
def F42_2 (K0 : Value → Value → World → Prop) : Nat → Value → Value → Value → Value → Value → World → Prop
  | 0 => fun _ _ _ _ _ _ => False
  | n + 1 => F42_2B (F42_2 K0 n) K0
def F42_2O (Q : Post) (t : Tm) (w : World) : Prop := ∃ n, F42_2 (fun y0 y1 w => ∀ g, rsh [(0, (.one (.int .i64))), (1, (.one .adr))] (upds g [(0, y0), (1, y1)]) fun t => Q (.exit 0) t w) n (t 0) (t 1) (t 2) (t 3) (t 4) w
theorem F42_2_step (K0 : Value → Value → World → Prop) (n : Nat) (t : Tm) (w : World) : (F42_2 K0 (n + 1) (t 0) (t 1) (t 2) (t 3) (t 4) w) = rsh [(0, (.one (.int .i64))), (1, (.one .adr)), (2, (.one .adr)), (3, (.one .adr)), (4, (.one .adr))] t (fun t => vc Tryd.prog (orcOf [([1, 0, 0, 0], F42_1O)]) [0, 0, 0] (getAt F42_code [0, 0, 0]) (fun o t w => match o with | .normal => F42_2 K0 n (t 0) (t 1) (t 2) (t 3) (t 4) w | .exit i => F42_2C K0 (.exit i) t w | .ret => F42_2C K0 .ret t w) t w) := by kernel_rfl
theorem F42_2_ok : ∀ Q t w, F42_2O Q t w → W Tryd.prog Tryd.f42.ntmps (getAt F42_code [0, 0]) Q t w := by
  intro Q t w ⟨n, h⟩
  refine (W_loop (P := Tryd.prog) (b := getAt F42_code [0, 0, 0]) (Q := F42_2C (fun y0 y1 w => ∀ g, rsh [(0, (.one (.int .i64))), (1, (.one .adr))] (upds g [(0, y0), (1, y1)]) fun t => Q (.exit 0) t w)) (G := fun n t w => F42_2 (fun y0 y1 w => ∀ g, rsh [(0, (.one (.int .i64))), (1, (.one .adr))] (upds g [(0, y0), (1, y1)]) fun t => Q (.exit 0) t w) n (t 0) (t 1) (t 2) (t 3) (t 4) w) (fun _ _ h => h) (fun n t w h => ?_) n t w h).mono ?_
  · rw [F42_2_step] at h
    exact vc_sound mixed (orcCons (π := [1, 0, 0, 0]) F42_1_ok (orcNil F42_code)) _ _ rfl (okC_at F42_code_ok [0, 0, 0]) _ _ _ (rsh_out h)
  · intro o t w q
    cases o with
    | normal => exact q.elim
    | exit i =>
      unfold F42_2C at q
      simp only at q
      split at q
      · rename_i hi
        rw [nbeq] at hi
        subst hi
        exact out_ok [0, 1] q
      · exact q.elim
    | ret => exact q.elim
def F42 (x0 : Value) (x1 : Value) (x2 : Value) (x3 : Value) (x4 : Value) (w : World) (K : Value → World → Prop) : Prop :=
  rdI .i64 x0 fun n1 => rdA x1 fun a2 => rdA x2 fun a3 => rdA x3 fun a4 => rdA x4 fun a5 => ∃ k12 : Nat, F42_2 (fun y0_5 y1_5 w7 => ∀ _g8 : Tm, rdI .i64 y0_5 fun n9 => rdA y1_5 fun a10 => stc a10 (.int .i64 (IntKind.wrap .i64 (n9 + 1))) w7 fun w11 => K (.tuple #[]) w11) k12 (.int .i64 n1) (.pointer (some a2)) (.pointer (some a3)) (.pointer (some a4)) (.pointer (some a5)) w
theorem F42_step (x0 : Value) (x1 : Value) (x2 : Value) (x3 : Value) (x4 : Value) (w : World) (K : Value → World → Prop) : (F42 x0 x1 x2 x3 x4 w K) = rsh [(0, (.one (.int .i64))), (1, (.one .adr)), (2, (.one .adr)), (3, (.one .adr)), (4, (.one .adr))] (args0 #[x0, x1, x2, x3, x4]) (fun t => vc Tryd.prog (orcOf [([1, 0, 0, 0], F42_1O), ([0, 0], F42_2O)]) [] F42_code (retQ Tryd.prog Tryd.f42 K) t w) := by kernel_rfl
theorem F42_ok {x0 x1 x2 x3 x4 : Value} {w : World} {K : Value → World → Prop} (h : F42 x0 x1 x2 x3 x4 w K) : Calls Tryd.prog 42 #[x0, x1, x2, x3, x4] w fun e w' => ∃ v, e = .returned v ∧ K v w' := by
  rw [F42_step] at h
  exact calls_of (c := F42_code) mixed Tryd.func42 rfl (nlt rfl) (vc_sound mixed (orcCons (π := [1, 0, 0, 0]) F42_1_ok (orcCons (π := [0, 0]) F42_2_ok (orcNil F42_code))) F42_code [] rfl F42_code_ok _ _ _ (rsh_out h))

/-! ropewalk/ropewalkref01.diff -/
noncomputable def F43_code : Code := Tryd.f43.body.getD .skip
theorem F43_code_ok : okC Tryd.prog Tryd.f43.ntmps F43_code = true := by kernel_rfl
def F43 (x0 : Value) (x1 : Value) (x2 : Value) (w : World) (K : Value → World → Prop) : Prop :=
  rdI .i64 x0 fun n1 => rdI .i64 x1 fun n2 => rdI .i64 x2 fun n3 => nz n3 (br (decide (((Int.tmod (IntKind.wrap .i64 (n2 - n1)) n3) : Int) < 0)) (br (decide (((IntKind.wrap .i64 ((Int.tmod (IntKind.wrap .i64 (n2 - n1)) n3) + n3)) : Int) ≥ (IntKind.wrap .i64 (Int.tdiv n3 2)))) (K (.int .i64 (IntKind.wrap .i64 ((IntKind.wrap .i64 ((Int.tmod (IntKind.wrap .i64 (n2 - n1)) n3) + n3)) - n3))) w) (K (.int .i64 (IntKind.wrap .i64 ((Int.tmod (IntKind.wrap .i64 (n2 - n1)) n3) + n3))) w)) (br (decide (((Int.tmod (IntKind.wrap .i64 (n2 - n1)) n3) : Int) ≥ (IntKind.wrap .i64 (Int.tdiv n3 2)))) (K (.int .i64 (IntKind.wrap .i64 ((Int.tmod (IntKind.wrap .i64 (n2 - n1)) n3) - n3))) w) (K (.int .i64 (Int.tmod (IntKind.wrap .i64 (n2 - n1)) n3)) w)))
theorem F43_step (x0 : Value) (x1 : Value) (x2 : Value) (w : World) (K : Value → World → Prop) : (F43 x0 x1 x2 w K) = rsh [(0, (.one (.int .i64))), (1, (.one (.int .i64))), (2, (.one (.int .i64)))] (args0 #[x0, x1, x2]) (fun t => vc Tryd.prog (orcOf []) [] F43_code (retQ Tryd.prog Tryd.f43 K) t w) := by kernel_rfl
theorem F43_ok {x0 x1 x2 : Value} {w : World} {K : Value → World → Prop} (h : F43 x0 x1 x2 w K) : Calls Tryd.prog 43 #[x0, x1, x2] w fun e w' => ∃ v, e = .returned v ∧ K v w' := by
  rw [F43_step] at h
  exact calls_of (c := F43_code) mixed Tryd.func43 rfl (nlt rfl) (vc_sound mixed (orcNil F43_code) F43_code [] rfl F43_code_ok _ _ _ (rsh_out h))

/-! (*ropewalk/spans.Set).High$1 -/
noncomputable def F44_code : Code := Tryd.f44.body.getD .skip
theorem F44_code_ok : okC Tryd.prog Tryd.f44.ntmps F44_code = true := by kernel_rfl
def F44 (x0 : Value) (x1 : Value) (x2 : Value) (w : World) (K : Value → World → Prop) : Prop :=
  rdI .i64 x0 fun n1 => rdA x1 fun a2 => rdA x2 fun a3 => ldP a2 w fun p4 => nn p4 fun a5 => ldI .u32 (a5.add 2) w fun n6 => stc a3 (.int .u32 (IntKind.wrap .u32 (n6 + (IntKind.wrap .u32 (n1))))) w fun w7 => K (.tuple #[]) w7
theorem F44_step (x0 : Value) (x1 : Value) (x2 : Value) (w : World) (K : Value → World → Prop) : (F44 x0 x1 x2 w K) = rsh [(0, (.one (.int .i64))), (1, (.one .adr)), (2, (.one .adr))] (args0 #[x0, x1, x2]) (fun t => vc Tryd.prog (orcOf []) [] F44_code (retQ Tryd.prog Tryd.f44 K) t w) := by kernel_rfl
theorem F44_ok {x0 x1 x2 : Value} {w : World} {K : Value → World → Prop} (h : F44 x0 x1 x2 w K) : Calls Tryd.prog 44 #[x0, x1, x2] w fun e w' => ∃ v, e = .returned v ∧ K v w' := by
  rw [F44_step] at h
  exact calls_of (c := F44_code) mixed Tryd.func44 rfl (nlt rfl) (vc_sound mixed (orcNil F44_code) F44_code [] rfl F44_code_ok _ _ _ (rsh_out h))

/-! (*ropewalk/spans.Set).above -/
noncomputable def F45_code : Code := Tryd.f45.body.getD .skip
theorem F45_code_ok : okC Tryd.prog Tryd.f45.ntmps F45_code = true := by kernel_rfl
def F45 (x0 : Value) (x1 : Value) (w : World) (K : Value → World → Prop) : Prop :=
  rdP x0 fun p1 => rdI .u32 x1 fun n2 => nn p1 fun a3 => ldI .u32 (a3.add 2) w fun n4 => Calls Tryd.prog 46 #[(.int .u32 n4), (.int .u32 n2)] w fun e7 w6 => ∃ n5, e7 = .returned (.int .i64 n5) ∧ (br (decide ((n5 : Int) < 2)) (K (.int .i64 0) w6) (br (decide ((n5 : Int) > 65535)) (K (.int .i64 0) w6) (K (.int .i64 n5) w6)))
theorem F45_step (x0 : Value) (x1 : Value) (w : World) (K : Value → World → Prop) : (F45 x0 x1 w K) = rsh [(0, (.one .ptr)), (1, (.one (.int .u32)))] (args0 #[x0, x1]) (fun t => vc Tryd.prog (orcOf []) [] F45_code (retQ Tryd.prog Tryd.f45 K) t w) := by kernel_rfl
theorem F45_ok {x0 x1 : Value} {w : World} {K : Value → World → Prop} (h : F45 x0 x1 w K) : Calls Tryd.prog 45 #[x0, x1] w fun e w' => ∃ v, e = .returned v ∧ K v w' := by
  rw [F45_step] at h
  exact calls_of (c := F45_code) mixed Tryd.func45 rfl (nlt rfl) (vc_sound mixed (orcNil F45_code) F45_code [] rfl F45_code_ok _ _ _ (rsh_out h))

/-! ropewalk/serial.Diff -/
noncomputable def F46_code : Code := Tryd.f46.body.getD .skip
theorem F46_code_ok : okC Tryd.prog Tryd.f46.ntmps F46_code = true := by kernel_rfl
def F46 (x0 : Value) (x1 : Value) (w : World) (K : Value → World → Prop) : Prop :=
  rdI .u32 x0 fun n1 => rdI .u32 x1 fun n2 => Calls Tryd.prog 53 #[(.int .u32 n1), (.int .u32 n2)] w fun e5 w4 => ∃ n3, e5 = .returned (.int .i64 n3) ∧ (K (.int .i64 n3) w4)
theorem F46_step (x0 : Value) (x1 : Value) (w : World) (K : Value → World → Prop) : (F46 x0 x1 w K) = rsh [(0, (.one (.int .u32))), (1, (.one (.int .u32)))] (args0 #[x0, x1]) (fun t => vc Tryd.prog (orcOf []) [] F46_code (retQ Tryd.prog Tryd.f46 K) t w) := by kernel_rfl
theorem F46_ok {x0 x1 : Value} {w : World} {K : Value → World → Prop} (h : F46 x0 x1 w K) : Calls Tryd.prog 46 #[x0, x1] w fun e w' => ∃ v, e = .returned v ∧ K v w' := by
  rw [F46_step] at h
  exact calls_of (c := F46_code) mixed Tryd.func46 rfl (nlt rfl) (vc_sound mixed (orcNil F46_code) F46_code [] rfl F46_code_ok _ _ _ (rsh_out h))

/-! (*ropewalk/spans.field).holds -/
noncomputable def F47_code : Code := Tryd.f47.body.getD .skip
theorem F47_code_ok : okC Tryd.prog Tryd.f47.ntmps F47_code = true := by kernel_rfl
def F47 (x0 : Value) (x1 : Value) (w : World) (K : Value → World → Prop) : Prop :=
  rdP x0 fun p1 => rdI .i64 x1 fun n2 => Calls Tryd.prog 52 #[(.pointer p1), (.int .i64 n2)] w fun e6 w5 => ∃ n3 n4, e6 = .returned (.tuple #[(.int .i64 n3), (.int .u64 n4)]) ∧ (nn p1 fun a7 => ldM (a7.add 0) w5 fun m8 => ∃ n9, lookF Tryd.prog 3 78 (.map m8) (.int .i64 n3) false w5 = some (.int .u64 n9) ∧ (K (.bool ((bitI .and .u64 n9 n4) != 0)) w5))
theorem F47_step (x0 : Value) (x1 : Value) (w : World) (K : Value → World → Prop) : (F47 x0 x1 w K) = rsh [(0, (.one .ptr)), (1, (.one (.int .i64)))] (args0 #[x0, x1]) (fun t => vc Tryd.prog (orcOf []) [] F47_code (retQ Tryd.prog Tryd.f47 K) t w) := by kernel_rfl
theorem F47_ok {x0 x1 : Value} {w : World} {K : Value → World → Prop} (h : F47 x0 x1 w K) : Calls Tryd.prog 47 #[x0, x1] w fun e w' => ∃ v, e = .returned v ∧ K v w' := by
  rw [F47_step] at h
  exact calls_of (c := F47_code) mixed Tryd.func47 rfl (nlt rfl) (vc_sound mixed (orcNil F47_code) F47_code [] rfl F47_code_ok _ _ _ (rsh_out h))

/-! (*ropewalk/spans.Set).move -/
noncomputable def F48_code : Code := Tryd.f48.body.getD .skip
theorem F48_code_ok : okC Tryd.prog Tryd.f48.ntmps F48_code = true := by kernel_rfl
def F48 (x0 : Value) (x1 : Value) (w : World) (K : Value → World → Prop) : Prop :=
  rdP x0 fun p1 => rdI .i64 x1 fun n2 => alc (.cells #[(.pointer p1)] 25) w fun b3 w4 => alc (.cells #[(.int .i64 n2)] 3) w4 fun b5 w6 => ldP (Addr.mk b3 0 none) w6 fun p7 => nn p7 fun a8 => ldM ((a8.add 0).add 0) w6 fun m9 => ldI .i64 ((a8.add 0).add 1) w6 fun n10 => alc (.cells #[(.map none), (.int .i64 0)] 65) w6 fun b11 w12 => stc ((Addr.mk b11 0 none).add 0) (.map m9) w12 fun w13 => stc ((Addr.mk b11 0 none).add 1) (.int .i64 n10) w13 fun w14 => ldP (Addr.mk b3 0 none) w14 fun p15 => alc (.map #[] 0) w14 fun b16 w17 => nn p15 fun a18 => stc ((a18.add 0).add 0) (.map (some b16)) w17 fun w19 => stc ((a18.add 0).add 1) (.int .i64 0) w19 fun w20 => drw w20 fun w21 => ldP (Addr.mk b3 0 none) w21 fun p22 => nn p22 fun a23 => ldI .u32 (a23.add 2) w21 fun n24 => ldI .i64 (Addr.mk b5 0 none) w21 fun n25 => nn p22 fun a26 => stc (a26.add 2) (.int .u32 (IntKind.wrap .u32 (n24 + (IntKind.wrap .u32 (n25))))) w21 fun w27 => Calls Tryd.prog 36 #[(.pointer (some (Addr.mk b11 0 none))), (.func (.func 54) #[] #[(.pointer (some (Addr.mk b5 0 none))), (.pointer (some (Addr.mk b3 0 none)))])] w27 fun e29 w28 => e29 = .returned (.tuple #[]) ∧ (K (.tuple #[]) w28)
theorem F48_step (x0 : Value) (x1 : Value) (w : World) (K : Value → World → Prop) : (F48 x0 x1 w K) = rsh [(0, (.one .ptr)), (1, (.one (.int .i64)))] (args0 #[x0, x1]) (fun t => vc Tryd.prog (orcOf []) [] F48_code (retQ Tryd.prog Tryd.f48 K) t w) := by kernel_rfl
theorem F48_ok {x0 x1 : Value} {w : World} {K : Value → World → Prop} (h : F48 x0 x1 w K) : Calls Tryd.prog 48 #[x0, x1] w fun e w' => ∃ v, e = .returned v ∧ K v w' := by
  rw [F48_step] at h
  exact calls_of (c := F48_code) mixed Tryd.func48 rfl (nlt rfl) (vc_sound mixed (orcNil F48_code) F48_code [] rfl F48_code_ok _ _ _ (rsh_out h))

/-! (*ropewalk/spans.field).take -/
noncomputable def F49_code : Code := Tryd.f49.body.getD .skip
theorem F49_code_ok : okC Tryd.prog Tryd.f49.ntmps F49_code = true := by kernel_rfl
def F49_1C (Kr : Value → World → Prop) : Post := fun o t w => match o with | .normal => False | .exit i => (False) | .ret => Kr (t 4) w
def F49_1 (Kr : Value → World → Prop) (x0 : Value) (w : World) : Prop :=
  rdP x0 fun p1 => nn p1 fun a2 => ldI .i64 (a2.add 1) w fun n3 => nn p1 fun a4 => stc (a4.add 1) (.int .i64 (IntKind.wrap .i64 (n3 - 1))) w fun w5 => Kr (.bool true) w5
def F49_1O (Q : Post) (t : Tm) (w : World) : Prop := F49_1 (fun y4 w => ∀ g, rsh [(4, (.one .bool))] (upds g [(4, y4)]) fun t => Q .ret t w) (t 0) w
theorem F49_1_step (Kr : Value → World → Prop) (t : Tm) (w : World) : (F49_1 Kr (t 0) w) = rsh [(0, (.one .ptr))] t (fun t => vc Tryd.prog (orcOf []) [1, 1, 1, 1, 1] (getAt F49_code [1, 1, 1, 1, 1]) (F49_1C Kr) t w) := by kernel_rfl
theorem F49_1_ok : ∀ Q t w, F49_1O Q t w → W Tryd.prog Tryd.f49.ntmps (getAt F49_code [1, 1, 1, 1, 1]) Q t w := by
  intro Q t w h
  unfold F49_1O at h
  rw [F49_1_step] at h
  refine (vc_sound mixed (orcNil F49_code) _ _ rfl (okC_at F49_code_ok [1, 1, 1, 1, 1]) _ _ _ (rsh_out h)).mono ?_
  intro o t w q
  cases o with
  | normal => exact q.elim
  | exit i => exact q.elim
  | ret => exact out_ok [4] q
def F49 (x0 : Value) (x1 : Value) (w : World) (K : Value → World → Prop) : Prop :=
  rdP x0 fun p1 => rdI .i64 x1 fun n2 => Calls Tryd.prog 47 #[(.pointer p1), (.int .i64 n2)] w fun e5 w4 => ∃ b3, e5 = .returned (.bool b3) ∧ (br (!b3) (K (.bool false) w4) (Calls Tryd.prog 52 #[(.pointer p1), (.int .i64 n2)] w4 fun e9 w8 => ∃ n6 n7, e9 = .returned (.tuple #[(.int .i64 n6), (.int .u64 n7)]) ∧ (nn p1 fun a10 => ldM (a10.add 0) w8 fun m11 => ∃ n12, lookF Tryd.prog 3 78 (.map m11) (.int .i64 n6) false w8 = some (.int .u64 n12) ∧ (∃ w13, Sem.run Tryd.prog (Instr.mapUpdate 63 (.map m11) (.int .i64 n6) (.int .u64 (bitI .andNot .u64 n12 n7))) w8 = .ok () w13 ∧ (nn p1 fun a14 => ldM (a14.add 0) w13 fun m15 => ∃ n16, lookF Tryd.prog 3 78 (.map m15) (.int .i64 n6) false w13 = some (.int .u64 n16) ∧ (br (n16 == 0) (nn p1 fun a17 => ldM (a17.add 0) w13 fun m18 => ∃ w19, Sem.run Tryd.prog (Builtin.delete_ #[63, 3] 0 #[(.map m18), (.int .i64 n6)]) w13 = .ok (.tuple #[]) w19 ∧ (F49_1 (fun y4_19 w21 => ∀ _g22 : Tm, rdB y4_19 fun b23 => K (.bool b23) w21) (.pointer p1) w19)) (F49_1 (fun y4_23 w25 => ∀ _g26 : Tm, rdB y4_23 fun b27 => K (.bool b27) w25) (.pointer p1) w13)))))))
theorem F49_step (x0 : Value) (x1 : Value) (w : World) (K : Value → World → Prop) : (F49 x0 x1 w K) = rsh [(0, (.one .ptr)), (1, (.one (.int .i64)))] (args0 #[x0, x1]) (fun t => vc Tryd.prog (orcOf [([1, 1, 1, 1, 1], F49_1O)]) [] F49_code (retQ Tryd.prog Tryd.f49 K) t w) := by kernel_rfl
theorem F49_ok {x0 x1 : Value} {w : World} {K : Value → World → Prop} (h : F49 x0 x1 w K) : Calls Tryd.prog 49 #[x0, x1] w fun e w' => ∃ v, e = .returned v ∧ K v w' := by
  rw [F49_step] at h
  exact calls_of (c := F49_code) mixed Tryd.func49 rfl (nlt rfl) (vc_sound mixed (orcCons (π := [1, 1, 1, 1, 1]) F49_1_ok (orcNil F49_code)) F49_code [] rfl F49_code_ok _ _ _ (rsh_out h))

/-! (*ropewalk/ropewalkref03.Set).has -/
noncomputable def F50_code : Code := Tryd.f50.body.getD .skip
theorem F50_code_ok : okC Tryd.prog Tryd.f50.ntmps F50_code = true := by kernel_rfl
def F50_1C (K0 : World → Prop) (Kr : Value → World → Prop) : Post := fun o t w => match o with | .normal => False | .exit i => (match Nat.beq i 0 with | true => K0  w | false => False) | .ret => Kr (t 4) w
def F50_1B (R : Value → Value → Value → World → Prop) (K0 : World → Prop) (Kr : Value → World → Prop) (x0 : Value) (x1 : Value) (x5 : Value) (w : World) : Prop :=
  rdP x0 fun p1 => rdI .i64 x1 fun n2 => rdI .i64 x5 fun n3 => nn p1 fun a4 => ldC (a4.add 1) w fun l5a l5n l5c => br (decide ((n3 : Int) < (l5n : Int))) (nn p1 fun a6 => ldC (a6.add 1) w fun l7a l7n l7c => ixS 1 l7a l7n n3 fun a8 => ldI .i64 a8 w fun n9 => br (n9 == n2) (Kr (.bool true) w) (R (.pointer p1) (.int .i64 n2) (.int .i64 (IntKind.wrap .i64 (n3 + 1))) w)) (K0 w)
def F50_1 (K0 : World → Prop) (Kr : Value → World → Prop) : Nat → Value → Value → Value → World → Prop
  | 0 => fun _ _ _ _ => False
  | n + 1 => F50_1B (F50_1 K0 Kr n) K0 Kr
def F50_1O (Q : Post) (t : Tm) (w : World) : Prop := ∃ n, F50_1 (fun w => ∀ g, rsh [] (upds g []) fun t => Q (.exit 0) t w) (fun y4 w => ∀ g, rsh [(4, (.one .bool))] (upds g [(4, y4)]) fun t => Q .ret t w) n (t 0) (t 1) (t 5) w
theorem F50_1_step (K0 : World → Prop) (Kr : Value → World → Prop) (n : Nat) (t : Tm) (w : World) : (F50_1 K0 Kr (n + 1) (t 0) (t 1) (t 5) w) = rsh [(0, (.one .ptr)), (1, (.one (.int .i64))), (5, (.one (.int .i64)))] t (fun t => vc Tryd.prog (orcOf []) [0, 0, 1, 0, 1] (getAt F50_code [0, 0, 1, 0, 1]) (fun o t w => match o with | .normal => F50_1 K0 Kr n (t 0) (t 1) (t 5) w | .exit i => F50_1C K0 Kr (.exit i) t w | .ret => F50_1C K0 Kr .ret t w) t w) := by kernel_rfl
theorem F50_1_ok : ∀ Q t w, F50_1O Q t w → W Tryd.prog Tryd.f50.ntmps (getAt F50_code [0, 1, 0, 1]) Q t w := by
  intro Q t w ⟨n, h⟩
  refine (W_loop (P := Tryd.prog) (b := getAt F50_code [0, 0, 1, 0, 1]) (Q := F50_1C (fun w => ∀ g, rsh [] (upds g []) fun t => Q (.exit 0) t w) (fun y4 w => ∀ g, rsh [(4, (.one .bool))] (upds g [(4, y4)]) fun t => Q .ret t w)) (G := fun n t w => F50_1 (fun w => ∀ g, rsh [] (upds g []) fun t => Q (.exit 0) t w) (fun y4 w => ∀ g, rsh [(4, (.one .bool))] (upds g [(4, y4)]) fun t => Q .ret t w) n (t 0) (t 1) (t 5) w) (fun _ _ h => h) (fun n t w h => ?_) n t w h).mono ?_
  · rw [F50_1_step] at h
    exact vc_sound mixed (orcNil F50_code) _ _ rfl (okC_at F50_code_ok [0, 0, 1, 0, 1]) _ _ _ (rsh_out h)
  · intro o t w q
    cases o with
    | normal => exact q.elim
    | exit i =>
      unfold F50_1C at q
      simp only at q
      split at q
      · rename_i hi
        rw [nbeq] at hi
        subst hi
        exact out_ok [] q
      · exact q.elim
    | ret => exact out_ok [4] q
def F50 (x0 : Value) (x1 : Value) (w : World) (K : Value → World → Prop) : Prop :=
  rdP x0 fun p1 => rdI .i64 x1 fun n2 => ∃ k10 : Nat, F50_1 (fun w4 => ∀ _g5 : Tm, K (.bool false) w4) (fun y4_5 w7 => ∀ _g8 : Tm, rdB y4_5 fun b9 => K (.bool b9) w7) k10 (.pointer p1) (.int .i64 n2) (.int .i64 0) w
theorem F50_step (x0 : Value) (x1 : Value) (w : World) (K : Value → World → Prop) : (F50 x0 x1 w K) = rsh [(0, (.one .ptr)), (1, (.one (.int .i64)))] (args0 #[x0, x1]) (fun t => vc Tryd.prog (orcOf [([0, 1, 0, 1], F50_1O)]) [] F50_code (retQ Tryd.prog Tryd.f50 K) t w) := by kernel_rfl
theorem F50_ok {x0 x1 : Value} {w : World} {K : Value → World → Prop} (h : F50 x0 x1 w K) : Calls Tryd.prog 50 #[x0, x1] w fun e w' => ∃ v, e = .returned v ∧ K v w' := by
  rw [F50_step] at h
  exact calls_of (c := F50_code) mixed Tryd.func50 rfl (nlt rfl) (vc_sound mixed (orcCons (π := [0, 1, 0, 1]) F50_1_ok (orcNil F50_code)) F50_code [] rfl F50_code_ok _ _ _ (rsh_out h))

/-! math/bits.TrailingZeros64 -/
noncomputable def F51_code : Code := Tryd.f51.body.getD .skip
theorem F51_code_ok : okC Tryd.prog Tryd.f51.ntmps F51_code = true := by kernel_rfl
def F51 (x0 : Value) (w : World) (K : Value → World → Prop) : Prop :=
  rdI .u64 x0 fun n1 => br (n1 == 0) (K (.int .i64 64) w) (ixA 1 64 (Addr.mk 0 0 none) (Int.fdiv (IntKind.wrap .u64 ((bitI .and .u64 n1 (IntKind.wrap .u64 (0 - n1))) * 285870213051353865)) (2 ^ (min 58 (IntKind.bits .u64)))) fun a2 => ldI .u8 a2 w fun n3 => K (.int .i64 (IntKind.wrap .i64 (n3))) w)
theorem F51_step (x0 : Value) (w : World) (K : Value → World → Prop) : (F51 x0 w K) = rsh [(0, (.one (.int .u64)))] (args0 #[x0]) (fun t => vc Tryd.prog (orcOf []) [] F51_code (retQ Tryd.prog Tryd.f51 K) t w) := by kernel_rfl
theorem F51_ok {x0 : Value} {w : World} {K : Value → World → Prop} (h : F51 x0 w K) : Calls Tryd.prog 51 #[x0] w fun e w' => ∃ v, e = .returned v ∧ K v w' := by
  rw [F51_step] at h
  exact calls_of (c := F51_code) mixed Tryd.func51 rfl (nlt rfl) (vc_sound mixed (orcNil F51_code) F51_code [] rfl F51_code_ok _ _ _ (rsh_out h))

/-! (*ropewalk/spans.field).bit -/
noncomputable def F52_code : Code := Tryd.f52.body.getD .skip
theorem F52_code_ok : okC Tryd.prog Tryd.f52.ntmps F52_code = true := by kernel_rfl
def F52 (x0 : Value) (x1 : Value) (w : World) (K : Value → World → Prop) : Prop :=
  rdI .i64 x1 fun n1 => drw w fun w2 => shc (Int.tmod n1 64) fun h3 => K (.tuple #[(.int .i64 (IntKind.wrap .i64 (Int.tdiv n1 64))), (.int .u64 (IntKind.wrap .u64 (1 * 2 ^ (min h3 (IntKind.bits .u64)))))]) w2
theorem F52_step (x0 : Value) (x1 : Value) (w : World) (K : Value → World → Prop) : (F52 x0 x1 w K) = rsh [(1, (.one (.int .i64)))] (args0 #[x0, x1]) (fun t => vc Tryd.prog (orcOf []) [] F52_code (retQ Tryd.prog Tryd.f52 K) t w) := by kernel_rfl
theorem F52_ok {x0 x1 : Value} {w : World} {K : Value → World → Prop} (h : F52 x0 x1 w K) : Calls Tryd.prog 52 #[x0, x1] w fun e w' => ∃ v, e = .returned v ∧ K v w' := by
  rw [F52_step] at h
  exact calls_of (c := F52_code) mixed Tryd.func52 rfl (nlt rfl) (vc_sound mixed (orcNil F52_code) F52_code [] rfl F52_code_ok _ _ _ (rsh_out h))

/-! ropewalk/serial.off[uint32] -/
noncomputable def F53_code : Code := Tryd.f53.body.getD .skip
theorem F53_code_ok : okC Tryd.prog Tryd.f53.ntmps F53_code = true := by kernel_rfl
def F53 (x0 : Value) (x1 : Value) (w : World) (K : Value → World → Prop) : Prop :=
  rdI .u32 x0 fun n1 => rdI .u32 x1 fun n2 => br (decide (((IntKind.wrap .i64 ((IntKind.wrap .u32 (n2 - n1)))) : Int) ≥ (IntKind.wrap .i64 ((IntKind.wrap .i64 ((IntKind.wrap .u32 (Int.tdiv (bitI .xor .u32 (if IntKind.signed .u32 then -1 else IntKind.max .u32) (IntKind.wrap .u32 (0))) 2)))) + 1)))) (K (.int .i64 (IntKind.wrap .i64 ((IntKind.wrap .i64 ((IntKind.wrap .u32 (n2 - n1)))) - (IntKind.wrap .i64 (2 * (IntKind.wrap .i64 ((IntKind.wrap .i64 ((IntKind.wrap .u32 (Int.tdiv (bitI .xor .u32 (if IntKind.signed .u32 then -1 else IntKind.max .u32) (IntKind.wrap .u32 (0))) 2)))) + 1))))))) w) (K (.int .i64 (IntKind.wrap .i64 ((IntKind.wrap .u32 (n2 - n1))))) w)
theorem F53_step (x0 : Value) (x1 : Value) (w : World) (K : Value → World → Prop) : (F53 x0 x1 w K) = rsh [(0, (.one (.int .u32))), (1, (.one (.int .u32)))] (args0 #[x0, x1]) (fun t => vc Tryd.prog (orcOf []) [] F53_code (retQ Tryd.prog Tryd.f53 K) t w) := by kernel_rfl
theorem F53_ok {x0 x1 : Value} {w : World} {K : Value → World → Prop} (h : F53 x0 x1 w K) : Calls Tryd.prog 53 #[x0, x1] w fun e w' => ∃ v, e = .returned v ∧ K v w' := by
  rw [F53_step] at h
  exact calls_of (c := F53_code) mixed Tryd.func53 rfl (nlt rfl) (vc_sound mixed (orcNil F53_code) F53_code [] rfl F53_code_ok _ _ _ (rsh_out h))

/-! (*ropewalk/spans.Set).move$1 -/
noncomputable def F54_code : Code := Tryd.f54.body.getD .skip
theorem F54_code_ok : okC Tryd.prog Tryd.f54.ntmps F54_code = true := by kernel_rfl
def F54 (x0 : Value) (x1 : Value) (x2 : Value) (w : World) (K : Value → World → Prop) : Prop :=
  rdI .i64 x0 fun n1 => rdA x1 fun a2 => rdA x2 fun a3 => ldI .i64 a2 w fun n4 => br (decide ((n1 : Int) > n4)) (drw w fun w5 => ldP a3 w5 fun p6 => nn p6 fun a7 => ldI .i64 a2 w5 fun n8 => Calls Tryd.prog 38 #[(.pointer (some (a7.add 0))), (.int .i64 (IntKind.wrap .i64 (n1 - n8)))] w5 fun e11 w10 => ∃ b9, e11 = .returned (.bool b9) ∧ (K (.tuple #[]) w10)) (K (.tuple #[]) w)
theorem F54_step (x0 : Value) (x1 : Value) (x2 : Value) (w : World) (K : Value → World → Prop) : (F54 x0 x1 x2 w K) = rsh [(0, (.one (.int .i64))), (1, (.one .adr)), (2, (.one .adr))] (args0 #[x0, x1, x2]) (fun t => vc Tryd.prog (orcOf []) [] F54_code (retQ Tryd.prog Tryd.f54 K) t w) := by kernel_rfl
theorem F54_ok {x0 x1 x2 : Value} {w : World} {K : Value → World → Prop} (h : F54 x0 x1 x2 w K) : Calls Tryd.prog 54 #[x0, x1, x2] w fun e w' => ∃ v, e = .returned v ∧ K v w' := by
  rw [F54_step] at h
  exact calls_of (c := F54_code) mixed Tryd.func54 rfl (nlt rfl) (vc_sound mixed (orcNil F54_code) F54_code [] rfl F54_code_ok _ _ _ (rsh_out h))
end Go.Proofs.YtjcigidbnpmeaaaDoor
