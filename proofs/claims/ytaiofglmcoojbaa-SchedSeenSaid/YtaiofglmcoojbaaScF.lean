/- Own text: part of the shallow reading of the code and of the contracts that are proved over it. -/
import Derived.Test.YtaiofglmcoojbaaShG
import Derived.Test.YtaiofglmcoojbaaProg
import Derived.KernelRfl
namespace Go.Proofs.Ytaiofglmcoojbaa
open Go Go.Sh
set_option maxRecDepth 100000
theorem mixed : Try.prog.follows .mixedOrders = true := by kernel_rfl
/-! ropewalk/ropewalklaw18.SchedOrders -/
noncomputable def F3_code : Code := Try.f3.body.getD .skip
theorem F3_code_ok : okC Try.prog Try.f3.ntmps F3_code = true := by kernel_rfl
def F3 (x0 : Value) (x1 : Value) (x2 : Value) (w : World) (K : Value → World → Prop) : Prop :=
  rdI .i64 x0 fun n1 => rdI .i64 x1 fun n2 => rdC x2 fun l3a l3n l3c => Calls Try.prog 8 #[(.int .i64 n1), (.int .i64 n2), (.slice l3a l3n l3c)] w fun e7 w6 => ∃ l4a l4n l4c n5, e7 = .returned (.tuple #[(.slice l4a l4n l4c), (.int .i64 n5)]) ∧ (Calls Try.prog 9 #[(.int .i64 n1), (.int .i64 n2), (.slice l3a l3n l3c)] w6 fun e11 w10 => ∃ l8a l8n l8c n9, e11 = .returned (.tuple #[(.slice l8a l8n l8c), (.int .i64 n9)]) ∧ (Calls Try.prog 10 #[(.int .i64 n1), (.int .i64 n2), (.slice l3a l3n l3c)] w10 fun e16 w15 => ∃ n12 b13 n14, e16 = .returned (.tuple #[(.int .i64 n12), (.bool b13), (.int .i64 n14)]) ∧ (Calls Try.prog 11 #[(.int .i64 n1), (.int .i64 n2), (.slice l3a l3n l3c)] w15 fun e21 w20 => ∃ n17 b18 n19, e21 = .returned (.tuple #[(.int .i64 n17), (.bool b18), (.int .i64 n19)]) ∧ (Calls Try.prog 12 #[(.slice l4a l4n l4c), (.slice l8a l8n l8c)] w20 fun e24 w23 => ∃ b22, e24 = .returned (.bool b22) ∧ (br b22 (br (n5 == n9) (br (n12 == n17) (br (b13 == b18) (br (n14 == n19) (Calls Try.prog 13 #[(.slice l3a l3n l3c)] w23 fun e27 w26 => ∃ n25, e27 = .returned (.int .i64 n25) ∧ (Calls Try.prog 14 #[(.slice l3a l3n l3c)] w26 fun e30 w29 => ∃ n28, e30 = .returned (.int .i64 n28) ∧ (br (n25 == n28) (Calls Try.prog 15 #[] w29 fun e33 w32 => ∃ b31, e33 = .returned (.bool b31) ∧ (K (.bool b31) w32)) (K (.bool false) w29)))) (K (.bool false) w23)) (K (.bool false) w23)) (K (.bool false) w23)) (K (.bool false) w23)) (K (.bool false) w23))))))
theorem F3_step (x0 : Value) (x1 : Value) (x2 : Value) (w : World) (K : Value → World → Prop) : (F3 x0 x1 x2 w K) = rsh [(0, (.one (.int .i64))), (1, (.one (.int .i64))), (2, (.one .slc))] (args0 #[x0, x1, x2]) (fun t => vc Try.prog (orcOf []) [] F3_code (retQ Try.prog Try.f3 K) t w) := by kernel_rfl
theorem F3_ok {x0 x1 x2 : Value} {w : World} {K : Value → World → Prop} (h : F3 x0 x1 x2 w K) : Calls Try.prog 3 #[x0, x1, x2] w fun e w' => ∃ v, e = .returned v ∧ K v w' := by
  rw [F3_step] at h
  exact calls_of (c := F3_code) mixed Try.func3 rfl (nlt rfl) (vc_sound mixed (orcNil F3_code) F3_code [] rfl F3_code_ok _ _ _ (rsh_out h))

/-! ropewalk/ropewalklaw18.SchedAgains -/
noncomputable def F4_code : Code := Try.f4.body.getD .skip
theorem F4_code_ok : okC Try.prog Try.f4.ntmps F4_code = true := by kernel_rfl
def F4 (x0 : Value) (x1 : Value) (w : World) (K : Value → World → Prop) : Prop :=
  rdI .i64 x0 fun n1 => rdC x1 fun l2a l2n l2c => Calls Try.prog 16 #[(.int .i64 n1), (.slice l2a l2n l2c)] w fun e6 w5 => ∃ n3 n4, e6 = .returned (.tuple #[(.int .i64 n3), (.int .i64 n4)]) ∧ (Calls Try.prog 17 #[(.int .i64 n1), (.slice l2a l2n l2c)] w5 fun e10 w9 => ∃ n7 n8, e10 = .returned (.tuple #[(.int .i64 n7), (.int .i64 n8)]) ∧ (br (n3 == n7) (br (n4 == n8) (Calls Try.prog 15 #[] w9 fun e13 w12 => ∃ b11, e13 = .returned (.bool b11) ∧ (K (.bool b11) w12)) (K (.bool false) w9)) (K (.bool false) w9)))
theorem F4_step (x0 : Value) (x1 : Value) (w : World) (K : Value → World → Prop) : (F4 x0 x1 w K) = rsh [(0, (.one (.int .i64))), (1, (.one .slc))] (args0 #[x0, x1]) (fun t => vc Try.prog (orcOf []) [] F4_code (retQ Try.prog Try.f4 K) t w) := by kernel_rfl
theorem F4_ok {x0 x1 : Value} {w : World} {K : Value → World → Prop} (h : F4 x0 x1 w K) : Calls Try.prog 4 #[x0, x1] w fun e w' => ∃ v, e = .returned v ∧ K v w' := by
  rw [F4_step] at h
  exact calls_of (c := F4_code) mixed Try.func4 rfl (nlt rfl) (vc_sound mixed (orcNil F4_code) F4_code [] rfl F4_code_ok _ _ _ (rsh_out h))

/-! ropewalk/ropewalklaw18.SchedBest -/
noncomputable def F5_code : Code := Try.f5.body.getD .skip
theorem F5_code_ok : okC Try.prog Try.f5.ntmps F5_code = true := by kernel_rfl
def F5_1C (Kn : Value → Value → Value → Value → Value → Value → Value → World → Prop) (Kr : Value → World → Prop) : Post := fun o t w => match o with | .normal => Kn (t 2) (t 3) (t 9) (t 10) (t 12) (t 13) (t 14) w | .exit i => (False) | .ret => Kr (t 8) w
def F5_1 (Kn : Value → Value → Value → Value → Value → Value → Value → World → Prop) (Kr : Value → World → Prop) (x2 : Value) (x3 : Value) (x9 : Value) (x10 : Value) (x12 : Value) (x13 : Value) (x14 : Value) (w : World) : Prop :=
  rdI .i64 x2 fun n1 => rdC x3 fun l2a l2n l2c => rdI .i64 x9 fun n3 => rdB x10 fun b4 => rdI .i64 x12 fun n5 => rdI .i64 x13 fun n6 => rdI .i64 x14 fun n7 => drw w fun w8 => br (n5 == n1) (br (n7 != n1) (ixS 4 l2a l2n n7 fun a9 => ldI .i64 (a9.add 0) w8 fun n10 => ixS 4 l2a l2n n1 fun a11 => ldI .i64 (a11.add 0) w8 fun n12 => br (decide ((n10 : Int) ≤ n12)) (Kr (.bool false) w8) (Kn (.int .i64 n1) (.slice l2a l2n l2c) (.int .i64 n3) (.bool b4) (.int .i64 n5) (.int .i64 n6) (.int .i64 n7) w8)) (Kn (.int .i64 n1) (.slice l2a l2n l2c) (.int .i64 n3) (.bool b4) (.int .i64 n5) (.int .i64 n6) (.int .i64 n7) w8)) (Kn (.int .i64 n1) (.slice l2a l2n l2c) (.int .i64 n3) (.bool b4) (.int .i64 n5) (.int .i64 n6) (.int .i64 n7) w8)
def F5_1O (Q : Post) (t : Tm) (w : World) : Prop := F5_1 (fun y2 y3 y9 y10 y12 y13 y14 w => ∀ g, rsh [(2, (.one (.int .i64))), (3, (.one .slc)), (9, (.one (.int .i64))), (10, (.one .bool)), (12, (.one (.int .i64))), (13, (.one (.int .i64))), (14, (.one (.int .i64)))] (upds g [(2, y2), (3, y3), (9, y9), (10, y10), (12, y12), (13, y13), (14, y14)]) fun t => Q .normal t w) (fun y8 w => ∀ g, rsh [(8, (.one .bool))] (upds g [(8, y8)]) fun t => Q .ret t w) (t 2) (t 3) (t 9) (t 10) (t 12) (t 13) (t 14) w
theorem F5_1_step (Kn : Value → Value → Value → Value → Value → Value → Value → World → Prop) (Kr : Value → World → Prop) (t : Tm) (w : World) : (F5_1 Kn Kr (t 2) (t 3) (t 9) (t 10) (t 12) (t 13) (t 14) w) = rsh [(2, (.one (.int .i64))), (3, (.one .slc)), (9, (.one (.int .i64))), (10, (.one .bool)), (12, (.one (.int .i64))), (13, (.one (.int .i64))), (14, (.one (.int .i64)))] t (fun t => vc Try.prog (orcOf []) [1, 1, 1, 0, 0, 1, 0, 0, 1, 0, 1, 1, 1, 1, 1] (getAt F5_code [1, 1, 1, 0, 0, 1, 0, 0, 1, 0, 1, 1, 1, 1, 1]) (F5_1C Kn Kr) t w) := by kernel_rfl
theorem F5_1_ok : ∀ Q t w, F5_1O Q t w → W Try.prog Try.f5.ntmps (getAt F5_code [1, 1, 1, 0, 0, 1, 0, 0, 1, 0, 1, 1, 1, 1, 1]) Q t w := by
  intro Q t w h
  unfold F5_1O at h
  rw [F5_1_step] at h
  refine (vc_sound mixed (orcNil F5_code) _ _ rfl (okC_at F5_code_ok [1, 1, 1, 0, 0, 1, 0, 0, 1, 0, 1, 1, 1, 1, 1]) _ _ _ (rsh_out h)).mono ?_
  intro o t w q
  cases o with
  | normal => exact out_ok [2, 3, 9, 10, 12, 13, 14] q
  | exit i => exact q.elim
  | ret => exact out_ok [8] q
def F5_2C (K1 : Value → Value → Value → Value → Value → Value → Value → World → Prop) (Kn : Value → Value → Value → Value → Value → Value → Value → World → Prop) (Kr : Value → World → Prop) : Post := fun o t w => match o with | .normal => Kn (t 2) (t 3) (t 9) (t 10) (t 12) (t 13) (t 14) w | .exit i => (match Nat.beq i 1 with | true => K1 (t 2) (t 3) (t 9) (t 10) (t 12) (t 13) (t 14) w | false => False) | .ret => Kr (t 8) w
def F5_2 (K1 : Value → Value → Value → Value → Value → Value → Value → World → Prop) (Kn : Value → Value → Value → Value → Value → Value → Value → World → Prop) (Kr : Value → World → Prop) (x2 : Value) (x3 : Value) (x9 : Value) (x10 : Value) (x12 : Value) (x13 : Value) (x14 : Value) (w : World) : Prop :=
  rdI .i64 x2 fun n1 => rdC x3 fun l2a l2n l2c => rdI .i64 x9 fun n3 => rdB x10 fun b4 => rdI .i64 x12 fun n5 => rdI .i64 x13 fun n6 => rdI .i64 x14 fun n7 => br (n6 != 0) (K1 (.int .i64 n1) (.slice l2a l2n l2c) (.int .i64 n3) (.bool b4) (.int .i64 n5) (.int .i64 n6) (.int .i64 n7) w) (drw w fun w8 => br (decide ((n5 : Int) < 0)) (Kr (.bool false) w8) (br (decide ((n5 : Int) ≥ (l2n : Int))) (Kr (.bool false) w8) (br (decide ((n1 : Int) < 0)) (Kr (.bool false) w8) (br (decide ((n1 : Int) ≥ (l2n : Int))) (Kr (.bool false) w8) (ixS 4 l2a l2n n7 fun a9 => ldI .i64 (a9.add 0) w8 fun n10 => ixS 4 l2a l2n n5 fun a11 => ldI .i64 (a11.add 0) w8 fun n12 => br (decide ((n10 : Int) < n12)) (br (n7 != n1) (Kr (.bool false) w8) (F5_1 (fun y2_12 y3_12 y9_12 y10_12 y12_12 y13_12 y14_12 w14 => ∀ _g15 : Tm, rdI .i64 y2_12 fun n16 => rdC y3_12 fun l17a l17n l17c => rdI .i64 y9_12 fun n18 => rdB y10_12 fun b19 => rdI .i64 y12_12 fun n20 => rdI .i64 y13_12 fun n21 => rdI .i64 y14_12 fun n22 => Kn (.int .i64 n16) (.slice l17a l17n l17c) (.int .i64 n18) (.bool b19) (.int .i64 n20) (.int .i64 n21) (.int .i64 n22) w14) (fun y8_22 w24 => ∀ _g25 : Tm, rdB y8_22 fun b26 => Kr (.bool b26) w24) (.int .i64 n1) (.slice l2a l2n l2c) (.int .i64 n3) (.bool b4) (.int .i64 n5) (.int .i64 n6) (.int .i64 n7) w8)) (F5_1 (fun y2_26 y3_26 y9_26 y10_26 y12_26 y13_26 y14_26 w28 => ∀ _g29 : Tm, rdI .i64 y2_26 fun n30 => rdC y3_26 fun l31a l31n l31c => rdI .i64 y9_26 fun n32 => rdB y10_26 fun b33 => rdI .i64 y12_26 fun n34 => rdI .i64 y13_26 fun n35 => rdI .i64 y14_26 fun n36 => Kn (.int .i64 n30) (.slice l31a l31n l31c) (.int .i64 n32) (.bool b33) (.int .i64 n34) (.int .i64 n35) (.int .i64 n36) w28) (fun y8_36 w38 => ∀ _g39 : Tm, rdB y8_36 fun b40 => Kr (.bool b40) w38) (.int .i64 n1) (.slice l2a l2n l2c) (.int .i64 n3) (.bool b4) (.int .i64 n5) (.int .i64 n6) (.int .i64 n7) w8))))))
def F5_2O (Q : Post) (t : Tm) (w : World) : Prop := F5_2 (fun y2 y3 y9 y10 y12 y13 y14 w => ∀ g, rsh [(2, (.one (.int .i64))), (3, (.one .slc)), (9, (.one (.int .i64))), (10, (.one .bool)), (12, (.one (.int .i64))), (13, (.one (.int .i64))), (14, (.one (.int .i64)))] (upds g [(2, y2), (3, y3), (9, y9), (10, y10), (12, y12), (13, y13), (14, y14)]) fun t => Q (.exit 1) t w) (fun y2 y3 y9 y10 y12 y13 y14 w => ∀ g, rsh [(2, (.one (.int .i64))), (3, (.one .slc)), (9, (.one (.int .i64))), (10, (.one .bool)), (12, (.one (.int .i64))), (13, (.one (.int .i64))), (14, (.one (.int .i64)))] (upds g [(2, y2), (3, y3), (9, y9), (10, y10), (12, y12), (13, y13), (14, y14)]) fun t => Q .normal t w) (fun y8 w => ∀ g, rsh [(8, (.one .bool))] (upds g [(8, y8)]) fun t => Q .ret t w) (t 2) (t 3) (t 9) (t 10) (t 12) (t 13) (t 14) w
theorem F5_2_step (K1 : Value → Value → Value → Value → Value → Value → Value → World → Prop) (Kn : Value → Value → Value → Value → Value → Value → Value → World → Prop) (Kr : Value → World → Prop) (t : Tm) (w : World) : (F5_2 K1 Kn Kr (t 2) (t 3) (t 9) (t 10) (t 12) (t 13) (t 14) w) = rsh [(2, (.one (.int .i64))), (3, (.one .slc)), (9, (.one (.int .i64))), (10, (.one .bool)), (12, (.one (.int .i64))), (13, (.one (.int .i64))), (14, (.one (.int .i64)))] t (fun t => vc Try.prog (orcOf [([1, 1, 1, 0, 0, 1, 0, 0, 1, 0, 1, 1, 1, 1, 1], F5_1O)]) [1, 0, 0, 1, 0, 0, 1, 0, 1, 1, 1, 1, 1] (getAt F5_code [1, 0, 0, 1, 0, 0, 1, 0, 1, 1, 1, 1, 1]) (F5_2C K1 Kn Kr) t w) := by kernel_rfl
theorem F5_2_ok : ∀ Q t w, F5_2O Q t w → W Try.prog Try.f5.ntmps (getAt F5_code [1, 0, 0, 1, 0, 0, 1, 0, 1, 1, 1, 1, 1]) Q t w := by
  intro Q t w h
  unfold F5_2O at h
  rw [F5_2_step] at h
  refine (vc_sound mixed (orcCons (π := [1, 1, 1, 0, 0, 1, 0, 0, 1, 0, 1, 1, 1, 1, 1]) F5_1_ok (orcNil F5_code)) _ _ rfl (okC_at F5_code_ok [1, 0, 0, 1, 0, 0, 1, 0, 1, 1, 1, 1, 1]) _ _ _ (rsh_out h)).mono ?_
  intro o t w q
  cases o with
  | normal => exact out_ok [2, 3, 9, 10, 12, 13, 14] q
  | exit i =>
      unfold F5_2C at q
      simp only at q
      split at q
      · rename_i hi
        rw [nbeq] at hi
        subst hi
        exact out_ok [2, 3, 9, 10, 12, 13, 14] q
      · exact q.elim
  | ret => exact out_ok [8] q
def F5_3C (K0 : World → Prop) (Kr : Value → World → Prop) : Post := fun o t w => match o with | .normal => False | .exit i => (match Nat.beq i 0 with | true => K0  w | false => False) | .ret => Kr (t 8) w
def F5_3B (R : Value → Value → Value → Value → Value → Value → Value → World → Prop) (K0 : World → Prop) (Kr : Value → World → Prop) (x2 : Value) (x3 : Value) (x9 : Value) (x10 : Value) (x12 : Value) (x13 : Value) (x14 : Value) (w : World) : Prop :=
  rdI .i64 x2 fun n1 => rdC x3 fun l2a l2n l2c => rdI .i64 x9 fun n3 => rdB x10 fun b4 => rdI .i64 x12 fun n5 => rdI .i64 x13 fun n6 => rdI .i64 x14 fun n7 => br (decide ((n7 : Int) < (l2n : Int))) (drw w fun w8 => br b4 (br (decide ((n3 : Int) < 0)) (Kr (.bool false) w8) (br (decide ((n3 : Int) ≥ (l2n : Int))) (Kr (.bool false) w8) (ixS 4 l2a l2n n7 fun a9 => ldI .i64 (a9.add 0) w8 fun n10 => ixS 4 l2a l2n n3 fun a11 => ldI .i64 (a11.add 0) w8 fun n12 => br (decide ((n10 : Int) < n12)) (Kr (.bool false) w8) (ixS 4 l2a l2n n3 fun a13 => ldI .i64 (a13.add 1) w8 fun n14 => br (n14 == 0) (Kr (.bool false) w8) (ixS 4 l2a l2n n3 fun a15 => ldB (a15.add 3) w8 fun b16 => br (!b16) (Kr (.bool false) w8) (F5_2 (fun y2_16 y3_16 y9_16 y10_16 y12_16 y13_16 y14_16 w18 => ∀ _g19 : Tm, rdI .i64 y2_16 fun n20 => rdC y3_16 fun l21a l21n l21c => rdI .i64 y9_16 fun n22 => rdB y10_16 fun b23 => rdI .i64 y12_16 fun n24 => rdI .i64 y13_16 fun n25 => rdI .i64 y14_16 fun n26 => R (.int .i64 n20) (.slice l21a l21n l21c) (.int .i64 n22) (.bool b23) (.int .i64 n24) (.int .i64 n25) (.int .i64 (IntKind.wrap .i64 (n26 + 1))) w18) (fun y2_26 y3_26 y9_26 y10_26 y12_26 y13_26 y14_26 w28 => ∀ _g29 : Tm, rdI .i64 y2_26 fun n30 => rdC y3_26 fun l31a l31n l31c => rdI .i64 y9_26 fun n32 => rdB y10_26 fun b33 => rdI .i64 y12_26 fun n34 => rdI .i64 y13_26 fun n35 => rdI .i64 y14_26 fun n36 => R (.int .i64 n30) (.slice l31a l31n l31c) (.int .i64 n32) (.bool b33) (.int .i64 n34) (.int .i64 n35) (.int .i64 (IntKind.wrap .i64 (n36 + 1))) w28) (fun y8_36 w38 => ∀ _g39 : Tm, rdB y8_36 fun b40 => Kr (.bool b40) w38) (.int .i64 n1) (.slice l2a l2n l2c) (.int .i64 n3) (.bool b4) (.int .i64 n5) (.int .i64 n6) (.int .i64 n7) w8)))))) (F5_2 (fun y2_40 y3_40 y9_40 y10_40 y12_40 y13_40 y14_40 w42 => ∀ _g43 : Tm, rdI .i64 y2_40 fun n44 => rdC y3_40 fun l45a l45n l45c => rdI .i64 y9_40 fun n46 => rdB y10_40 fun b47 => rdI .i64 y12_40 fun n48 => rdI .i64 y13_40 fun n49 => rdI .i64 y14_40 fun n50 => R (.int .i64 n44) (.slice l45a l45n l45c) (.int .i64 n46) (.bool b47) (.int .i64 n48) (.int .i64 n49) (.int .i64 (IntKind.wrap .i64 (n50 + 1))) w42) (fun y2_50 y3_50 y9_50 y10_50 y12_50 y13_50 y14_50 w52 => ∀ _g53 : Tm, rdI .i64 y2_50 fun n54 => rdC y3_50 fun l55a l55n l55c => rdI .i64 y9_50 fun n56 => rdB y10_50 fun b57 => rdI .i64 y12_50 fun n58 => rdI .i64 y13_50 fun n59 => rdI .i64 y14_50 fun n60 => R (.int .i64 n54) (.slice l55a l55n l55c) (.int .i64 n56) (.bool b57) (.int .i64 n58) (.int .i64 n59) (.int .i64 (IntKind.wrap .i64 (n60 + 1))) w52) (fun y8_60 w62 => ∀ _g63 : Tm, rdB y8_60 fun b64 => Kr (.bool b64) w62) (.int .i64 n1) (.slice l2a l2n l2c) (.int .i64 n3) (.bool b4) (.int .i64 n5) (.int .i64 n6) (.int .i64 n7) w8)) (K0 w)
def F5_3 (K0 : World → Prop) (Kr : Value → World → Prop) : Nat → Value → Value → Value → Value → Value → Value → Value → World → Prop
  | 0 => fun _ _ _ _ _ _ _ _ => False
  | n + 1 => F5_3B (F5_3 K0 Kr n) K0 Kr
def F5_3O (Q : Post) (t : Tm) (w : World) : Prop := ∃ n, F5_3 (fun w => ∀ g, rsh [] (upds g []) fun t => Q (.exit 0) t w) (fun y8 w => ∀ g, rsh [(8, (.one .bool))] (upds g [(8, y8)]) fun t => Q .ret t w) n (t 2) (t 3) (t 9) (t 10) (t 12) (t 13) (t 14) w
theorem F5_3_step (K0 : World → Prop) (Kr : Value → World → Prop) (n : Nat) (t : Tm) (w : World) : (F5_3 K0 Kr (n + 1) (t 2) (t 3) (t 9) (t 10) (t 12) (t 13) (t 14) w) = rsh [(2, (.one (.int .i64))), (3, (.one .slc)), (9, (.one (.int .i64))), (10, (.one .bool)), (12, (.one (.int .i64))), (13, (.one (.int .i64))), (14, (.one (.int .i64)))] t (fun t => vc Try.prog (orcOf [([1, 1, 1, 0, 0, 1, 0, 0, 1, 0, 1, 1, 1, 1, 1], F5_1O), ([1, 0, 0, 1, 0, 0, 1, 0, 1, 1, 1, 1, 1], F5_2O)]) [0, 0, 1, 0, 1, 1, 1, 1, 1] (getAt F5_code [0, 0, 1, 0, 1, 1, 1, 1, 1]) (fun o t w => match o with | .normal => F5_3 K0 Kr n (t 2) (t 3) (t 9) (t 10) (t 12) (t 13) (t 14) w | .exit i => F5_3C K0 Kr (.exit i) t w | .ret => F5_3C K0 Kr .ret t w) t w) := by kernel_rfl
theorem F5_3_ok : ∀ Q t w, F5_3O Q t w → W Try.prog Try.f5.ntmps (getAt F5_code [0, 1, 0, 1, 1, 1, 1, 1]) Q t w := by
  intro Q t w ⟨n, h⟩
  refine (W_loop (P := Try.prog) (b := getAt F5_code [0, 0, 1, 0, 1, 1, 1, 1, 1]) (Q := F5_3C (fun w => ∀ g, rsh [] (upds g []) fun t => Q (.exit 0) t w) (fun y8 w => ∀ g, rsh [(8, (.one .bool))] (upds g [(8, y8)]) fun t => Q .ret t w)) (G := fun n t w => F5_3 (fun w => ∀ g, rsh [] (upds g []) fun t => Q (.exit 0) t w) (fun y8 w => ∀ g, rsh [(8, (.one .bool))] (upds g [(8, y8)]) fun t => Q .ret t w) n (t 2) (t 3) (t 9) (t 10) (t 12) (t 13) (t 14) w) (fun _ _ h => h) (fun n t w h => ?_) n t w h).mono ?_
  · rw [F5_3_step] at h
    exact vc_sound mixed (orcCons (π := [1, 1, 1, 0, 0, 1, 0, 0, 1, 0, 1, 1, 1, 1, 1]) F5_1_ok (orcCons (π := [1, 0, 0, 1, 0, 0, 1, 0, 1, 1, 1, 1, 1]) F5_2_ok (orcNil F5_code))) _ _ rfl (okC_at F5_code_ok [0, 0, 1, 0, 1, 1, 1, 1, 1]) _ _ _ (rsh_out h)
  · intro o t w q
    cases o with
    | normal => exact q.elim
    | exit i =>
      unfold F5_3C at q
      simp only at q
      split at q
      · rename_i hi
        rw [nbeq] at hi
        subst hi
        exact out_ok [] q
      · exact q.elim
    | ret => exact out_ok [8] q
def F5 (x0 : Value) (x1 : Value) (x2 : Value) (x3 : Value) (w : World) (K : Value → World → Prop) : Prop :=
  rdI .i64 x0 fun n1 => rdI .i64 x1 fun n2 => rdI .i64 x2 fun n3 => rdC x3 fun l4a l4n l4c => Calls Try.prog 15 #[] w fun e7 w6 => ∃ b5, e7 = .returned (.bool b5) ∧ (br (!b5) (K (.bool false) w6) (Calls Try.prog 10 #[(.int .i64 n1), (.int .i64 n2), (.slice l4a l4n l4c)] w6 fun e12 w11 => ∃ n8 b9 n10, e12 = .returned (.tuple #[(.int .i64 n8), (.bool b9), (.int .i64 n10)]) ∧ (Calls Try.prog 16 #[(.int .i64 n3), (.slice l4a l4n l4c)] w11 fun e16 w15 => ∃ n13 n14, e16 = .returned (.tuple #[(.int .i64 n13), (.int .i64 n14)]) ∧ (Calls Try.prog 14 #[(.slice l4a l4n l4c)] w15 fun e19 w18 => ∃ n17, e19 = .returned (.int .i64 n17) ∧ (br (n17 != 0) (Calls Try.prog 14 #[(.slice l4a l4n l4c)] w18 fun e22 w21 => ∃ n20, e22 = .returned (.int .i64 n20) ∧ (br (n10 == n20) (br (n14 == n10) (K (.bool (!b9)) w21) (K (.bool false) w21)) (K (.bool false) w21))) (∃ k30 : Nat, F5_3 (fun w24 => ∀ _g25 : Tm, K (.bool true) w24) (fun y8_25 w27 => ∀ _g28 : Tm, rdB y8_25 fun b29 => K (.bool b29) w27) k30 (.int .i64 n3) (.slice l4a l4n l4c) (.int .i64 n8) (.bool b9) (.int .i64 n13) (.int .i64 n14) (.int .i64 0) w18))))))
theorem F5_step (x0 : Value) (x1 : Value) (x2 : Value) (x3 : Value) (w : World) (K : Value → World → Prop) : (F5 x0 x1 x2 x3 w K) = rsh [(0, (.one (.int .i64))), (1, (.one (.int .i64))), (2, (.one (.int .i64))), (3, (.one .slc))] (args0 #[x0, x1, x2, x3]) (fun t => vc Try.prog (orcOf [([1, 1, 1, 0, 0, 1, 0, 0, 1, 0, 1, 1, 1, 1, 1], F5_1O), ([1, 0, 0, 1, 0, 0, 1, 0, 1, 1, 1, 1, 1], F5_2O), ([0, 1, 0, 1, 1, 1, 1, 1], F5_3O)]) [] F5_code (retQ Try.prog Try.f5 K) t w) := by kernel_rfl
theorem F5_ok {x0 x1 x2 x3 : Value} {w : World} {K : Value → World → Prop} (h : F5 x0 x1 x2 x3 w K) : Calls Try.prog 5 #[x0, x1, x2, x3] w fun e w' => ∃ v, e = .returned v ∧ K v w' := by
  rw [F5_step] at h
  exact calls_of (c := F5_code) mixed Try.func5 rfl (nlt rfl) (vc_sound mixed (orcCons (π := [1, 1, 1, 0, 0, 1, 0, 0, 1, 0, 1, 1, 1, 1, 1]) F5_1_ok (orcCons (π := [1, 0, 0, 1, 0, 0, 1, 0, 1, 1, 1, 1, 1]) F5_2_ok (orcCons (π := [0, 1, 0, 1, 1, 1, 1, 1]) F5_3_ok (orcNil F5_code)))) F5_code [] rfl F5_code_ok _ _ _ (rsh_out h))

/-! ropewalk/ropewalklaw18.SchedRounds -/
noncomputable def F6_code : Code := Try.f6.body.getD .skip
theorem F6_code_ok : okC Try.prog Try.f6.ntmps F6_code = true := by kernel_rfl
def F6_1C (Kn : Value → Value → Value → Value → Value → World → Prop) : Post := fun o t w => match o with | .normal => Kn (t 0) (t 1) (t 5) (t 6) (t 7) w | .exit i => (False) | .ret => False
def F6_1 (Kn : Value → Value → Value → Value → Value → World → Prop) (x1 : Value) (x5 : Value) (x6 : Value) (x7 : Value) (x8 : Value) (w : World) : Prop :=
  rdC x1 fun l1a l1n l1c => rdC x5 fun l2a l2n l2c => rdC x6 fun l3a l3n l3c => rdI .i64 x7 fun n4 => rdI .i64 x8 fun n5 => ixS 1 l3a l3n n5 fun a6 => ldI .i64 a6 w fun n7 => ixS 1 l3a l3n n5 fun a8 => stc a8 (.int .i64 (IntKind.wrap .i64 (n7 + 1))) w fun w9 => Kn (.int .i64 n5) (.slice l1a l1n l1c) (.slice l2a l2n l2c) (.slice l3a l3n l3c) (.int .i64 n4) w9
def F6_1O (Q : Post) (t : Tm) (w : World) : Prop := F6_1 (fun y0 y1 y5 y6 y7 w => ∀ g, rsh [(0, (.one (.int .i64))), (1, (.one .slc)), (5, (.one .slc)), (6, (.one .slc)), (7, (.one (.int .i64)))] (upds g [(0, y0), (1, y1), (5, y5), (6, y6), (7, y7)]) fun t => Q .normal t w) (t 1) (t 5) (t 6) (t 7) (t 8) w
theorem F6_1_step (Kn : Value → Value → Value → Value → Value → World → Prop) (t : Tm) (w : World) : (F6_1 Kn (t 1) (t 5) (t 6) (t 7) (t 8) w) = rsh [(1, (.one .slc)), (5, (.one .slc)), (6, (.one .slc)), (7, (.one (.int .i64))), (8, (.one (.int .i64)))] t (fun t => vc Try.prog (orcOf []) [1, 1, 0, 0, 1, 0, 0, 1, 0, 1, 1, 1, 1, 1] (getAt F6_code [1, 1, 0, 0, 1, 0, 0, 1, 0, 1, 1, 1, 1, 1]) (F6_1C Kn) t w) := by kernel_rfl
theorem F6_1_ok : ∀ Q t w, F6_1O Q t w → W Try.prog Try.f6.ntmps (getAt F6_code [1, 1, 0, 0, 1, 0, 0, 1, 0, 1, 1, 1, 1, 1]) Q t w := by
  intro Q t w h
  unfold F6_1O at h
  rw [F6_1_step] at h
  refine (vc_sound mixed (orcNil F6_code) _ _ rfl (okC_at F6_code_ok [1, 1, 0, 0, 1, 0, 0, 1, 0, 1, 1, 1, 1, 1]) _ _ _ (rsh_out h)).mono ?_
  intro o t w q
  cases o with
  | normal => exact out_ok [0, 1, 5, 6, 7] q
  | exit i => exact q.elim
  | ret => exact q.elim
def F6_2C (K2 : World → Prop) (Kr : Value → World → Prop) : Post := fun o t w => match o with | .normal => False | .exit i => (match Nat.beq i 2 with | true => K2  w | false => False) | .ret => Kr (t 4) w
def F6_2B (R : Value → Value → Value → World → Prop) (K2 : World → Prop) (Kr : Value → World → Prop) (x5 : Value) (x6 : Value) (x11 : Value) (w : World) : Prop :=
  rdC x5 fun l1a l1n l1c => rdC x6 fun l2a l2n l2c => rdI .i64 x11 fun n3 => br (decide ((n3 : Int) < (l1n : Int))) (ixS 1 l1a l1n n3 fun a4 => ldI .i64 a4 w fun n5 => ixS 1 l2a l2n n5 fun a6 => ldI .i64 a6 w fun n7 => br (n7 != 1) (Kr (.bool false) w) (R (.slice l1a l1n l1c) (.slice l2a l2n l2c) (.int .i64 (IntKind.wrap .i64 (n3 + 1))) w)) (K2 w)
def F6_2 (K2 : World → Prop) (Kr : Value → World → Prop) : Nat → Value → Value → Value → World → Prop
  | 0 => fun _ _ _ _ => False
  | n + 1 => F6_2B (F6_2 K2 Kr n) K2 Kr
def F6_2O (Q : Post) (t : Tm) (w : World) : Prop := ∃ n, F6_2 (fun w => ∀ g, rsh [] (upds g []) fun t => Q (.exit 2) t w) (fun y4 w => ∀ g, rsh [(4, (.one .bool))] (upds g [(4, y4)]) fun t => Q .ret t w) n (t 5) (t 6) (t 11) w
theorem F6_2_step (K2 : World → Prop) (Kr : Value → World → Prop) (n : Nat) (t : Tm) (w : World) : (F6_2 K2 Kr (n + 1) (t 5) (t 6) (t 11) w) = rsh [(5, (.one .slc)), (6, (.one .slc)), (11, (.one (.int .i64)))] t (fun t => vc Try.prog (orcOf []) [0, 0, 1, 0, 1, 1, 1, 1, 1, 1] (getAt F6_code [0, 0, 1, 0, 1, 1, 1, 1, 1, 1]) (fun o t w => match o with | .normal => F6_2 K2 Kr n (t 5) (t 6) (t 11) w | .exit i => F6_2C K2 Kr (.exit i) t w | .ret => F6_2C K2 Kr .ret t w) t w) := by kernel_rfl
theorem F6_2_ok : ∀ Q t w, F6_2O Q t w → W Try.prog Try.f6.ntmps (getAt F6_code [0, 1, 0, 1, 1, 1, 1, 1, 1]) Q t w := by
  intro Q t w ⟨n, h⟩
  refine (W_loop (P := Try.prog) (b := getAt F6_code [0, 0, 1, 0, 1, 1, 1, 1, 1, 1]) (Q := F6_2C (fun w => ∀ g, rsh [] (upds g []) fun t => Q (.exit 2) t w) (fun y4 w => ∀ g, rsh [(4, (.one .bool))] (upds g [(4, y4)]) fun t => Q .ret t w)) (G := fun n t w => F6_2 (fun w => ∀ g, rsh [] (upds g []) fun t => Q (.exit 2) t w) (fun y4 w => ∀ g, rsh [(4, (.one .bool))] (upds g [(4, y4)]) fun t => Q .ret t w) n (t 5) (t 6) (t 11) w) (fun _ _ h => h) (fun n t w h => ?_) n t w h).mono ?_
  · rw [F6_2_step] at h
    exact vc_sound mixed (orcNil F6_code) _ _ rfl (okC_at F6_code_ok [0, 0, 1, 0, 1, 1, 1, 1, 1, 1]) _ _ _ (rsh_out h)
  · intro o t w q
    cases o with
    | normal => exact q.elim
    | exit i =>
      unfold F6_2C at q
      simp only at q
      split at q
      · rename_i hi
        rw [nbeq] at hi
        subst hi
        exact out_ok [] q
      · exact q.elim
    | ret => exact out_ok [4] q
def F6_3C (K0 : Value → Value → World → Prop) (Kr : Value → World → Prop) : Post := fun o t w => match o with | .normal => False | .exit i => (match Nat.beq i 0 with | true => K0 (t 5) (t 6) w | false => False) | .ret => Kr (t 4) w
def F6_3B (R : Value → Value → Value → Value → Value → World → Prop) (K0 : Value → Value → World → Prop) (Kr : Value → World → Prop) (x0 : Value) (x1 : Value) (x5 : Value) (x6 : Value) (x7 : Value) (w : World) : Prop :=
  rdI .i64 x0 fun n1 => rdC x1 fun l2a l2n l2c => rdC x5 fun l3a l3n l3c => rdC x6 fun l4a l4n l4c => rdI .i64 x7 fun n5 => br (decide ((n5 : Int) < (l3n : Int))) (Calls Try.prog 10 #[(.int .i64 0), (.int .i64 n1), (.slice l2a l2n l2c)] w fun e10 w9 => ∃ n6 b7 n8, e10 = .returned (.tuple #[(.int .i64 n6), (.bool b7), (.int .i64 n8)]) ∧ (br (!b7) (Kr (.bool false) w9) (br (n8 != 0) (Kr (.bool false) w9) (br (decide ((n6 : Int) < 0)) (Kr (.bool false) w9) (br (decide ((n6 : Int) ≥ (l2n : Int))) (Kr (.bool false) w9) (F6_1 (fun y0_10 y1_10 y5_10 y6_10 y7_10 w12 => ∀ _g13 : Tm, rdI .i64 y0_10 fun n14 => rdC y1_10 fun l15a l15n l15c => rdC y5_10 fun l16a l16n l16c => rdC y6_10 fun l17a l17n l17c => rdI .i64 y7_10 fun n18 => R (.int .i64 n14) (.slice l15a l15n l15c) (.slice l16a l16n l16c) (.slice l17a l17n l17c) (.int .i64 (IntKind.wrap .i64 (n18 + 1))) w12) (.slice l2a l2n l2c) (.slice l3a l3n l3c) (.slice l4a l4n l4c) (.int .i64 n5) (.int .i64 n6) w9)))))) (K0 (.slice l3a l3n l3c) (.slice l4a l4n l4c) w)
def F6_3 (K0 : Value → Value → World → Prop) (Kr : Value → World → Prop) : Nat → Value → Value → Value → Value → Value → World → Prop
  | 0 => fun _ _ _ _ _ _ => False
  | n + 1 => F6_3B (F6_3 K0 Kr n) K0 Kr
def F6_3O (Q : Post) (t : Tm) (w : World) : Prop := ∃ n, F6_3 (fun y5 y6 w => ∀ g, rsh [(5, (.one .slc)), (6, (.one .slc))] (upds g [(5, y5), (6, y6)]) fun t => Q (.exit 0) t w) (fun y4 w => ∀ g, rsh [(4, (.one .bool))] (upds g [(4, y4)]) fun t => Q .ret t w) n (t 0) (t 1) (t 5) (t 6) (t 7) w
theorem F6_3_step (K0 : Value → Value → World → Prop) (Kr : Value → World → Prop) (n : Nat) (t : Tm) (w : World) : (F6_3 K0 Kr (n + 1) (t 0) (t 1) (t 5) (t 6) (t 7) w) = rsh [(0, (.one (.int .i64))), (1, (.one .slc)), (5, (.one .slc)), (6, (.one .slc)), (7, (.one (.int .i64)))] t (fun t => vc Try.prog (orcOf [([1, 1, 0, 0, 1, 0, 0, 1, 0, 1, 1, 1, 1, 1], F6_1O)]) [0, 0, 1, 0, 1, 1, 1, 1, 1] (getAt F6_code [0, 0, 1, 0, 1, 1, 1, 1, 1]) (fun o t w => match o with | .normal => F6_3 K0 Kr n (t 0) (t 1) (t 5) (t 6) (t 7) w | .exit i => F6_3C K0 Kr (.exit i) t w | .ret => F6_3C K0 Kr .ret t w) t w) := by kernel_rfl
theorem F6_3_ok : ∀ Q t w, F6_3O Q t w → W Try.prog Try.f6.ntmps (getAt F6_code [0, 1, 0, 1, 1, 1, 1, 1]) Q t w := by
  intro Q t w ⟨n, h⟩
  refine (W_loop (P := Try.prog) (b := getAt F6_code [0, 0, 1, 0, 1, 1, 1, 1, 1]) (Q := F6_3C (fun y5 y6 w => ∀ g, rsh [(5, (.one .slc)), (6, (.one .slc))] (upds g [(5, y5), (6, y6)]) fun t => Q (.exit 0) t w) (fun y4 w => ∀ g, rsh [(4, (.one .bool))] (upds g [(4, y4)]) fun t => Q .ret t w)) (G := fun n t w => F6_3 (fun y5 y6 w => ∀ g, rsh [(5, (.one .slc)), (6, (.one .slc))] (upds g [(5, y5), (6, y6)]) fun t => Q (.exit 0) t w) (fun y4 w => ∀ g, rsh [(4, (.one .bool))] (upds g [(4, y4)]) fun t => Q .ret t w) n (t 0) (t 1) (t 5) (t 6) (t 7) w) (fun _ _ h => h) (fun n t w h => ?_) n t w h).mono ?_
  · rw [F6_3_step] at h
    exact vc_sound mixed (orcCons (π := [1, 1, 0, 0, 1, 0, 0, 1, 0, 1, 1, 1, 1, 1]) F6_1_ok (orcNil F6_code)) _ _ rfl (okC_at F6_code_ok [0, 0, 1, 0, 1, 1, 1, 1, 1]) _ _ _ (rsh_out h)
  · intro o t w q
    cases o with
    | normal => exact q.elim
    | exit i =>
      unfold F6_3C at q
      simp only at q
      split at q
      · rename_i hi
        rw [nbeq] at hi
        subst hi
        exact out_ok [5, 6] q
      · exact q.elim
    | ret => exact out_ok [4] q
def F6 (x0 : Value) (x1 : Value) (w : World) (K : Value → World → Prop) : Prop :=
  rdI .i64 x0 fun n1 => rdC x1 fun l2a l2n l2c => Calls Try.prog 15 #[] w fun e5 w4 => ∃ b3, e5 = .returned (.bool b3) ∧ (br (!b3) (K (.bool false) w4) (Calls Try.prog 14 #[(.slice l2a l2n l2c)] w4 fun e8 w7 => ∃ n6, e8 = .returned (.int .i64 n6) ∧ (br (n6 != 0) (Calls Try.prog 13 #[(.slice l2a l2n l2c)] w7 fun e11 w10 => ∃ n9, e11 = .returned (.int .i64 n9) ∧ (Calls Try.prog 14 #[(.slice l2a l2n l2c)] w10 fun e14 w13 => ∃ n12, e14 = .returned (.int .i64 n12) ∧ (K (.bool (n9 == n12)) w13))) (Calls Try.prog 18 #[(.slice l2a l2n l2c)] w7 fun e17 w16 => ∃ l15a l15n l15c, e17 = .returned (.slice l15a l15n l15c) ∧ (∃ l18a l18n l18c w19, Sem.run Try.prog (Instr.makeSlice 23 (.int .i64 (l2n : Int)) (.int .i64 (l2n : Int))) w16 = .ok (.slice l18a l18n l18c) w19 ∧ (∃ k37 : Nat, F6_3 (fun y5_19 y6_19 w21 => ∀ _g22 : Tm, rdC y5_19 fun l23a l23n l23c => rdC y6_19 fun l24a l24n l24c => ∃ k32 : Nat, F6_2 (fun w26 => ∀ _g27 : Tm, K (.bool true) w26) (fun y4_27 w29 => ∀ _g30 : Tm, rdB y4_27 fun b31 => K (.bool b31) w29) k32 (.slice l23a l23n l23c) (.slice l24a l24n l24c) (.int .i64 0) w21) (fun y4_32 w34 => ∀ _g35 : Tm, rdB y4_32 fun b36 => K (.bool b36) w34) k37 (.int .i64 n1) (.slice l2a l2n l2c) (.slice l15a l15n l15c) (.slice l18a l18n l18c) (.int .i64 0) w19))))))
theorem F6_step (x0 : Value) (x1 : Value) (w : World) (K : Value → World → Prop) : (F6 x0 x1 w K) = rsh [(0, (.one (.int .i64))), (1, (.one .slc))] (args0 #[x0, x1]) (fun t => vc Try.prog (orcOf [([1, 1, 0, 0, 1, 0, 0, 1, 0, 1, 1, 1, 1, 1], F6_1O), ([0, 1, 0, 1, 1, 1, 1, 1, 1], F6_2O), ([0, 1, 0, 1, 1, 1, 1, 1], F6_3O)]) [] F6_code (retQ Try.prog Try.f6 K) t w) := by kernel_rfl
theorem F6_ok {x0 x1 : Value} {w : World} {K : Value → World → Prop} (h : F6 x0 x1 w K) : Calls Try.prog 6 #[x0, x1] w fun e w' => ∃ v, e = .returned v ∧ K v w' := by
  rw [F6_step] at h
  exact calls_of (c := F6_code) mixed Try.func6 rfl (nlt rfl) (vc_sound mixed (orcCons (π := [1, 1, 0, 0, 1, 0, 0, 1, 0, 1, 1, 1, 1, 1]) F6_1_ok (orcCons (π := [0, 1, 0, 1, 1, 1, 1, 1, 1]) F6_2_ok (orcCons (π := [0, 1, 0, 1, 1, 1, 1, 1]) F6_3_ok (orcNil F6_code)))) F6_code [] rfl F6_code_ok _ _ _ (rsh_out h))

/-! ropewalk/ropewalklaw18.SchedSeen -/
noncomputable def F7_code : Code := Try.f7.body.getD .skip
theorem F7_code_ok : okC Try.prog Try.f7.ntmps F7_code = true := by kernel_rfl
def F7_1C (K2 : Value → Value → Value → Value → Value → Value → Value → Value → Value → World → Prop) : Post := fun o t w => match o with | .normal => False | .exit i => (match Nat.beq i 2 with | true => K2 (t 0) (t 1) (t 2) (t 3) (t 4) (t 11) (t 12) (t 13) (t 14) w | false => False) | .ret => False
def F7_1B (R : Value → Value → Value → Value → Value → Value → Value → Value → Value → Value → World → Prop) (K2 : Value → Value → Value → Value → Value → Value → Value → Value → Value → World → Prop) (x0 : Value) (x1 : Value) (x2 : Value) (x3 : Value) (x4 : Value) (x11 : Value) (x12 : Value) (x13 : Value) (x14 : Value) (x15 : Value) (w : World) : Prop :=
  rdI .i64 x0 fun n1 => rdI .i64 x1 fun n2 => rdC x2 fun l3a l3n l3c => rdI .i64 x3 fun n4 => rdI .i64 x4 fun n5 => rdC x11 fun l6a l6n l6c => rdC x12 fun l7a l7n l7c => rdI .i64 x13 fun n8 => rdB x14 fun b9 => rdI .i64 x15 fun n10 => br (decide ((n10 : Int) < (l6n : Int))) (br b9 (R (.int .i64 n1) (.int .i64 n2) (.slice l3a l3n l3c) (.int .i64 n4) (.int .i64 n5) (.slice l6a l6n l6c) (.slice l7a l7n l7c) (.int .i64 n8) (.bool true) (.int .i64 (IntKind.wrap .i64 (n10 + 1))) w) (ixS 1 l6a l6n n10 fun a11 => ldI .i64 a11 w fun n12 => R (.int .i64 n1) (.int .i64 n2) (.slice l3a l3n l3c) (.int .i64 n4) (.int .i64 n5) (.slice l6a l6n l6c) (.slice l7a l7n l7c) (.int .i64 n8) (.bool (n12 == n8)) (.int .i64 (IntKind.wrap .i64 (n10 + 1))) w)) (K2 (.int .i64 n1) (.int .i64 n2) (.slice l3a l3n l3c) (.int .i64 n4) (.int .i64 n5) (.slice l6a l6n l6c) (.slice l7a l7n l7c) (.int .i64 n8) (.bool b9) w)
def F7_1 (K2 : Value → Value → Value → Value → Value → Value → Value → Value → Value → World → Prop) : Nat → Value → Value → Value → Value → Value → Value → Value → Value → Value → Value → World → Prop
  | 0 => fun _ _ _ _ _ _ _ _ _ _ _ => False
  | n + 1 => F7_1B (F7_1 K2 n) K2
def F7_1O (Q : Post) (t : Tm) (w : World) : Prop := ∃ n, F7_1 (fun y0 y1 y2 y3 y4 y11 y12 y13 y14 w => ∀ g, rsh [(0, (.one (.int .i64))), (1, (.one (.int .i64))), (2, (.one .slc)), (3, (.one (.int .i64))), (4, (.one (.int .i64))), (11, (.one .slc)), (12, (.one .slc)), (13, (.one (.int .i64))), (14, (.one .bool))] (upds g [(0, y0), (1, y1), (2, y2), (3, y3), (4, y4), (11, y11), (12, y12), (13, y13), (14, y14)]) fun t => Q (.exit 2) t w) n (t 0) (t 1) (t 2) (t 3) (t 4) (t 11) (t 12) (t 13) (t 14) (t 15) w
theorem F7_1_step (K2 : Value → Value → Value → Value → Value → Value → Value → Value → Value → World → Prop) (n : Nat) (t : Tm) (w : World) : (F7_1 K2 (n + 1) (t 0) (t 1) (t 2) (t 3) (t 4) (t 11) (t 12) (t 13) (t 14) (t 15) w) = rsh [(0, (.one (.int .i64))), (1, (.one (.int .i64))), (2, (.one .slc)), (3, (.one (.int .i64))), (4, (.one (.int .i64))), (11, (.one .slc)), (12, (.one .slc)), (13, (.one (.int .i64))), (14, (.one .bool)), (15, (.one (.int .i64)))] t (fun t => vc Try.prog (orcOf []) [0, 0, 1, 0, 1, 0, 0, 1, 0, 0, 1, 0, 1, 1, 1, 1, 1] (getAt F7_code [0, 0, 1, 0, 1, 0, 0, 1, 0, 0, 1, 0, 1, 1, 1, 1, 1]) (fun o t w => match o with | .normal => F7_1 K2 n (t 0) (t 1) (t 2) (t 3) (t 4) (t 11) (t 12) (t 13) (t 14) (t 15) w | .exit i => F7_1C K2 (.exit i) t w | .ret => F7_1C K2 .ret t w) t w) := by kernel_rfl
theorem F7_1_ok : ∀ Q t w, F7_1O Q t w → W Try.prog Try.f7.ntmps (getAt F7_code [0, 1, 0, 1, 0, 0, 1, 0, 0, 1, 0, 1, 1, 1, 1, 1]) Q t w := by
  intro Q t w ⟨n, h⟩
  refine (W_loop (P := Try.prog) (b := getAt F7_code [0, 0, 1, 0, 1, 0, 0, 1, 0, 0, 1, 0, 1, 1, 1, 1, 1]) (Q := F7_1C (fun y0 y1 y2 y3 y4 y11 y12 y13 y14 w => ∀ g, rsh [(0, (.one (.int .i64))), (1, (.one (.int .i64))), (2, (.one .slc)), (3, (.one (.int .i64))), (4, (.one (.int .i64))), (11, (.one .slc)), (12, (.one .slc)), (13, (.one (.int .i64))), (14, (.one .bool))] (upds g [(0, y0), (1, y1), (2, y2), (3, y3), (4, y4), (11, y11), (12, y12), (13, y13), (14, y14)]) fun t => Q (.exit 2) t w)) (G := fun n t w => F7_1 (fun y0 y1 y2 y3 y4 y11 y12 y13 y14 w => ∀ g, rsh [(0, (.one (.int .i64))), (1, (.one (.int .i64))), (2, (.one .slc)), (3, (.one (.int .i64))), (4, (.one (.int .i64))), (11, (.one .slc)), (12, (.one .slc)), (13, (.one (.int .i64))), (14, (.one .bool))] (upds g [(0, y0), (1, y1), (2, y2), (3, y3), (4, y4), (11, y11), (12, y12), (13, y13), (14, y14)]) fun t => Q (.exit 2) t w) n (t 0) (t 1) (t 2) (t 3) (t 4) (t 11) (t 12) (t 13) (t 14) (t 15) w) (fun _ _ h => h) (fun n t w h => ?_) n t w h).mono ?_
  · rw [F7_1_step] at h
    exact vc_sound mixed (orcNil F7_code) _ _ rfl (okC_at F7_code_ok [0, 0, 1, 0, 1, 0, 0, 1, 0, 0, 1, 0, 1, 1, 1, 1, 1]) _ _ _ (rsh_out h)
  · intro o t w q
    cases o with
    | normal => exact q.elim
    | exit i =>
      unfold F7_1C at q
      simp only at q
      split at q
      · rename_i hi
        rw [nbeq] at hi
        subst hi
        exact out_ok [0, 1, 2, 3, 4, 11, 12, 13, 14] q
      · exact q.elim
    | ret => exact q.elim
def F7_2C (K0 : Value → Value → Value → Value → World → Prop) : Post := fun o t w => match o with | .normal => False | .exit i => (match Nat.beq i 0 with | true => K0 (t 0) (t 1) (t 2) (t 12) w | false => False) | .ret => False
def F7_2B (R : Value → Value → Value → Value → Value → Value → Value → Value → World → Prop) (K0 : Value → Value → Value → Value → World → Prop) (x0 : Value) (x1 : Value) (x2 : Value) (x3 : Value) (x4 : Value) (x11 : Value) (x12 : Value) (x13 : Value) (w : World) : Prop :=
  rdI .i64 x0 fun n1 => rdI .i64 x1 fun n2 => rdC x2 fun l3a l3n l3c => rdI .i64 x3 fun n4 => rdI .i64 x4 fun n5 => rdC x11 fun l6a l6n l6c => rdC x12 fun l7a l7n l7c => rdI .i64 x13 fun n8 => br (decide ((n8 : Int) < (l7n : Int))) (∃ k27 : Nat, F7_1 (fun y0_8 y1_8 y2_8 y3_8 y4_8 y11_8 y12_8 y13_8 y14_8 w10 => ∀ _g11 : Tm, rdI .i64 y0_8 fun n12 => rdI .i64 y1_8 fun n13 => rdC y2_8 fun l14a l14n l14c => rdI .i64 y3_8 fun n15 => rdI .i64 y4_8 fun n16 => rdC y11_8 fun l17a l17n l17c => rdC y12_8 fun l18a l18n l18c => rdI .i64 y13_8 fun n19 => rdB y14_8 fun b20 => br (!b20) (ixS 4 l18a l18n n19 fun a21 => stc (a21.add 2) (.int .i64 n15) w10 fun w22 => ixS 4 l18a l18n n19 fun a23 => stc (a23.add 1) (.int .i64 n16) w22 fun w24 => ixS 4 l18a l18n n19 fun a25 => stc (a25.add 3) (.bool false) w24 fun w26 => R (.int .i64 n12) (.int .i64 n13) (.slice l14a l14n l14c) (.int .i64 n15) (.int .i64 n16) (.slice l17a l17n l17c) (.slice l18a l18n l18c) (.int .i64 (IntKind.wrap .i64 (n19 + 1))) w26) (R (.int .i64 n12) (.int .i64 n13) (.slice l14a l14n l14c) (.int .i64 n15) (.int .i64 n16) (.slice l17a l17n l17c) (.slice l18a l18n l18c) (.int .i64 (IntKind.wrap .i64 (n19 + 1))) w10)) k27 (.int .i64 n1) (.int .i64 n2) (.slice l3a l3n l3c) (.int .i64 n4) (.int .i64 n5) (.slice l6a l6n l6c) (.slice l7a l7n l7c) (.int .i64 n8) (.bool false) (.int .i64 0) w) (K0 (.int .i64 n1) (.int .i64 n2) (.slice l3a l3n l3c) (.slice l7a l7n l7c) w)
def F7_2 (K0 : Value → Value → Value → Value → World → Prop) : Nat → Value → Value → Value → Value → Value → Value → Value → Value → World → Prop
  | 0 => fun _ _ _ _ _ _ _ _ _ => False
  | n + 1 => F7_2B (F7_2 K0 n) K0
def F7_2O (Q : Post) (t : Tm) (w : World) : Prop := ∃ n, F7_2 (fun y0 y1 y2 y12 w => ∀ g, rsh [(0, (.one (.int .i64))), (1, (.one (.int .i64))), (2, (.one .slc)), (12, (.one .slc))] (upds g [(0, y0), (1, y1), (2, y2), (12, y12)]) fun t => Q (.exit 0) t w) n (t 0) (t 1) (t 2) (t 3) (t 4) (t 11) (t 12) (t 13) w
theorem F7_2_step (K0 : Value → Value → Value → Value → World → Prop) (n : Nat) (t : Tm) (w : World) : (F7_2 K0 (n + 1) (t 0) (t 1) (t 2) (t 3) (t 4) (t 11) (t 12) (t 13) w) = rsh [(0, (.one (.int .i64))), (1, (.one (.int .i64))), (2, (.one .slc)), (3, (.one (.int .i64))), (4, (.one (.int .i64))), (11, (.one .slc)), (12, (.one .slc)), (13, (.one (.int .i64)))] t (fun t => vc Try.prog (orcOf [([0, 1, 0, 1, 0, 0, 1, 0, 0, 1, 0, 1, 1, 1, 1, 1], F7_1O)]) [0, 0, 1, 0, 1, 1, 1, 1, 1] (getAt F7_code [0, 0, 1, 0, 1, 1, 1, 1, 1]) (fun o t w => match o with | .normal => F7_2 K0 n (t 0) (t 1) (t 2) (t 3) (t 4) (t 11) (t 12) (t 13) w | .exit i => F7_2C K0 (.exit i) t w | .ret => F7_2C K0 .ret t w) t w) := by kernel_rfl
theorem F7_2_ok : ∀ Q t w, F7_2O Q t w → W Try.prog Try.f7.ntmps (getAt F7_code [0, 1, 0, 1, 1, 1, 1, 1]) Q t w := by
  intro Q t w ⟨n, h⟩
  refine (W_loop (P := Try.prog) (b := getAt F7_code [0, 0, 1, 0, 1, 1, 1, 1, 1]) (Q := F7_2C (fun y0 y1 y2 y12 w => ∀ g, rsh [(0, (.one (.int .i64))), (1, (.one (.int .i64))), (2, (.one .slc)), (12, (.one .slc))] (upds g [(0, y0), (1, y1), (2, y2), (12, y12)]) fun t => Q (.exit 0) t w)) (G := fun n t w => F7_2 (fun y0 y1 y2 y12 w => ∀ g, rsh [(0, (.one (.int .i64))), (1, (.one (.int .i64))), (2, (.one .slc)), (12, (.one .slc))] (upds g [(0, y0), (1, y1), (2, y2), (12, y12)]) fun t => Q (.exit 0) t w) n (t 0) (t 1) (t 2) (t 3) (t 4) (t 11) (t 12) (t 13) w) (fun _ _ h => h) (fun n t w h => ?_) n t w h).mono ?_
  · rw [F7_2_step] at h
    exact vc_sound mixed (orcCons (π := [0, 1, 0, 1, 0, 0, 1, 0, 0, 1, 0, 1, 1, 1, 1, 1]) F7_1_ok (orcNil F7_code)) _ _ rfl (okC_at F7_code_ok [0, 0, 1, 0, 1, 1, 1, 1, 1]) _ _ _ (rsh_out h)
  · intro o t w q
    cases o with
    | normal => exact q.elim
    | exit i =>
      unfold F7_2C at q
      simp only at q
      split at q
      · rename_i hi
        rw [nbeq] at hi
        subst hi
        exact out_ok [0, 1, 2, 12] q
      · exact q.elim
    | ret => exact q.elim
def F7_3C (Kr : Value → World → Prop) : Post := fun o t w => match o with | .normal => False | .exit i => (False) | .ret => Kr (t 10) w
def F7_3 (Kr : Value → World → Prop) (x0 : Value) (x1 : Value) (x2 : Value) (x3 : Value) (x4 : Value) (w : World) : Prop :=
  rdI .i64 x0 fun n1 => rdI .i64 x1 fun n2 => rdC x2 fun l3a l3n l3c => rdI .i64 x3 fun n4 => rdI .i64 x4 fun n5 => Calls Try.prog 18 #[(.slice l3a l3n l3c)] w fun e8 w7 => ∃ l6a l6n l6c, e8 = .returned (.slice l6a l6n l6c) ∧ (∃ l9a l9n l9c w10, Sem.run Try.prog (Instr.buildSlice 22 0 #[]) w7 = .ok (.slice l9a l9n l9c) w10 ∧ (∃ l11a l11n l11c w12, Sem.run Try.prog (Builtin.append_ #[22, 22] 22 #[(.slice l9a l9n l9c), (.slice l3a l3n l3c)]) w10 = .ok (.slice l11a l11n l11c) w12 ∧ (∃ k30 : Nat, F7_2 (fun y0_12 y1_12 y2_12 y12_12 w14 => ∀ _g15 : Tm, rdI .i64 y0_12 fun n16 => rdI .i64 y1_12 fun n17 => rdC y2_12 fun l18a l18n l18c => rdC y12_12 fun l19a l19n l19c => Calls Try.prog 10 #[(.int .i64 n16), (.int .i64 n17), (.slice l18a l18n l18c)] w14 fun e24 w23 => ∃ n20 b21 n22, e24 = .returned (.tuple #[(.int .i64 n20), (.bool b21), (.int .i64 n22)]) ∧ (Calls Try.prog 10 #[(.int .i64 n16), (.int .i64 n17), (.slice l19a l19n l19c)] w23 fun e29 w28 => ∃ n25 b26 n27, e29 = .returned (.tuple #[(.int .i64 n25), (.bool b26), (.int .i64 n27)]) ∧ (br (n20 == n25) (br (b21 == b26) (Kr (.bool (n22 == n27)) w28) (Kr (.bool false) w28)) (Kr (.bool false) w28)))) k30 (.int .i64 n1) (.int .i64 n2) (.slice l3a l3n l3c) (.int .i64 n4) (.int .i64 n5) (.slice l6a l6n l6c) (.slice l11a l11n l11c) (.int .i64 0) w12)))
def F7_3O (Q : Post) (t : Tm) (w : World) : Prop := F7_3 (fun y10 w => ∀ g, rsh [(10, (.one .bool))] (upds g [(10, y10)]) fun t => Q .ret t w) (t 0) (t 1) (t 2) (t 3) (t 4) w
theorem F7_3_step (Kr : Value → World → Prop) (t : Tm) (w : World) : (F7_3 Kr (t 0) (t 1) (t 2) (t 3) (t 4) w) = rsh [(0, (.one (.int .i64))), (1, (.one (.int .i64))), (2, (.one .slc)), (3, (.one (.int .i64))), (4, (.one (.int .i64)))] t (fun t => vc Try.prog (orcOf [([0, 1, 0, 1, 0, 0, 1, 0, 0, 1, 0, 1, 1, 1, 1, 1], F7_1O), ([0, 1, 0, 1, 1, 1, 1, 1], F7_2O)]) [1, 1, 1] (getAt F7_code [1, 1, 1]) (F7_3C Kr) t w) := by kernel_rfl
theorem F7_3_ok : ∀ Q t w, F7_3O Q t w → W Try.prog Try.f7.ntmps (getAt F7_code [1, 1, 1]) Q t w := by
  intro Q t w h
  unfold F7_3O at h
  rw [F7_3_step] at h
  refine (vc_sound mixed (orcCons (π := [0, 1, 0, 1, 0, 0, 1, 0, 0, 1, 0, 1, 1, 1, 1, 1]) F7_1_ok (orcCons (π := [0, 1, 0, 1, 1, 1, 1, 1]) F7_2_ok (orcNil F7_code))) _ _ rfl (okC_at F7_code_ok [1, 1, 1]) _ _ _ (rsh_out h)).mono ?_
  intro o t w q
  cases o with
  | normal => exact q.elim
  | exit i => exact q.elim
  | ret => exact out_ok [10] q
def F7 (x0 : Value) (x1 : Value) (x2 : Value) (x3 : Value) (x4 : Value) (w : World) (K : Value → World → Prop) : Prop :=
  rdI .i64 x0 fun n1 => rdI .i64 x1 fun n2 => rdC x2 fun l3a l3n l3c => rdI .i64 x3 fun n4 => rdI .i64 x4 fun n5 => Calls Try.prog 15 #[] w fun e8 w7 => ∃ b6, e8 = .returned (.bool b6) ∧ (br (!b6) (K (.bool false) w7) (Calls Try.prog 14 #[(.slice l3a l3n l3c)] w7 fun e11 w10 => ∃ n9, e11 = .returned (.int .i64 n9) ∧ (br (n9 != 0) (K (.bool true) w10) (br (decide ((n4 : Int) < 0)) (K (.bool true) w10) (br (decide ((n4 : Int) > 1048576)) (K (.bool true) w10) (br (decide ((n5 : Int) < 0)) (K (.bool true) w10) (br (decide ((n5 : Int) > 1073741824)) (K (.bool true) w10) (F7_3 (fun y10_11 w13 => ∀ _g14 : Tm, rdB y10_11 fun b15 => K (.bool b15) w13) (.int .i64 n1) (.int .i64 n2) (.slice l3a l3n l3c) (.int .i64 n4) (.int .i64 n5) w10))))))))
theorem F7_step (x0 : Value) (x1 : Value) (x2 : Value) (x3 : Value) (x4 : Value) (w : World) (K : Value → World → Prop) : (F7 x0 x1 x2 x3 x4 w K) = rsh [(0, (.one (.int .i64))), (1, (.one (.int .i64))), (2, (.one .slc)), (3, (.one (.int .i64))), (4, (.one (.int .i64)))] (args0 #[x0, x1, x2, x3, x4]) (fun t => vc Try.prog (orcOf [([0, 1, 0, 1, 0, 0, 1, 0, 0, 1, 0, 1, 1, 1, 1, 1], F7_1O), ([0, 1, 0, 1, 1, 1, 1, 1], F7_2O), ([1, 1, 1], F7_3O)]) [] F7_code (retQ Try.prog Try.f7 K) t w) := by kernel_rfl
theorem F7_ok {x0 x1 x2 x3 x4 : Value} {w : World} {K : Value → World → Prop} (h : F7 x0 x1 x2 x3 x4 w K) : Calls Try.prog 7 #[x0, x1, x2, x3, x4] w fun e w' => ∃ v, e = .returned v ∧ K v w' := by
  rw [F7_step] at h
  exact calls_of (c := F7_code) mixed Try.func7 rfl (nlt rfl) (vc_sound mixed (orcCons (π := [0, 1, 0, 1, 0, 0, 1, 0, 0, 1, 0, 1, 1, 1, 1, 1]) F7_1_ok (orcCons (π := [0, 1, 0, 1, 1, 1, 1, 1]) F7_2_ok (orcCons (π := [1, 1, 1]) F7_3_ok (orcNil F7_code)))) F7_code [] rfl F7_code_ok _ _ _ (rsh_out h))

/-! ropewalk/sched.Order -/
noncomputable def F8_code : Code := Try.f8.body.getD .skip
theorem F8_code_ok : okC Try.prog Try.f8.ntmps F8_code = true := by kernel_rfl
def F8_1C (Kn : Value → Value → World → Prop) : Post := fun o t w => match o with | .normal => Kn (t 5) (t 9) w | .exit i => (False) | .ret => False
def F8_1 (Kn : Value → Value → World → Prop) (x5 : Value) (x10 : Value) (w : World) : Prop :=
  rdA x5 fun a1 => rdA x10 fun a2 => alc (.cells #[.nilFunc] 47) w fun b3 w4 => stc (Addr.mk b3 0 none) (.func (.func 19) #[] #[(.pointer (some a2)), (.pointer (some a1))]) w4 fun w5 => Kn (.pointer (some a1)) (.func (.func 20) #[] #[(.pointer (some (Addr.mk b3 0 none)))]) w5
def F8_1O (Q : Post) (t : Tm) (w : World) : Prop := F8_1 (fun y5 y9 w => ∀ g, rsh [(5, (.one .adr))] (upds g [(5, y5), (9, y9)]) fun t => Q .normal t w) (t 5) (t 10) w
theorem F8_1_step (Kn : Value → Value → World → Prop) (t : Tm) (w : World) : (F8_1 Kn (t 5) (t 10) w) = rsh [(5, (.one .adr)), (10, (.one .adr))] t (fun t => vc Try.prog (orcOf []) [1, 1, 0, 1, 0, 1, 0, 1, 1, 1] (getAt F8_code [1, 1, 0, 1, 0, 1, 0, 1, 1, 1]) (F8_1C Kn) t w) := by kernel_rfl
theorem F8_1_ok : ∀ Q t w, F8_1O Q t w → W Try.prog Try.f8.ntmps (getAt F8_code [1, 1, 0, 1, 0, 1, 0, 1, 1, 1]) Q t w := by
  intro Q t w h
  unfold F8_1O at h
  rw [F8_1_step] at h
  refine (vc_sound mixed (orcNil F8_code) _ _ rfl (okC_at F8_code_ok [1, 1, 0, 1, 0, 1, 0, 1, 1, 1]) _ _ _ (rsh_out h)).mono ?_
  intro o t w q
  cases o with
  | normal => exact out_ok [5, 9] q
  | exit i => exact q.elim
  | ret => exact q.elim
def F8_2C (K1 : Value → Value → World → Prop) : Post := fun o t w => match o with | .normal => False | .exit i => (match Nat.beq i 1 with | true => K1 (t 9) (t 12) w | false => False) | .ret => False
def F8_2B (R : Value → Value → Value → Value → Value → Value → World → Prop) (K1 : Value → Value → World → Prop) (x5 : Value) (x9 : Value) (x12 : Value) (x42 : Value) (x43 : Value) (x44 : Value) (w : World) : Prop :=
  rdA x5 fun a1 => rdC x12 fun l2a l2n l2c => rdC x42 fun l3a l3n l3c => rdI .i64 x43 fun n4 => rdI .i64 x44 fun n5 => br (decide ((n5 : Int) < n4)) (ixS 1 l3a l3n n5 fun a6 => ldI .i64 a6 w fun n7 => ldC a1 w fun l8a l8n l8c => ixS 4 l8a l8n n7 fun a9 => ldI .i64 (a9.add 1) w fun n10 => br (decide ((n10 : Int) > 0)) (ldC a1 w fun l11a l11n l11c => ixS 4 l11a l11n n7 fun a12 => ldB (a12.add 3) w fun b13 => br b13 (alc (.cells #[(.int .i64 n7)] 3) w fun b14 w15 => ∃ l16a l16n l16c w17, Sem.run Try.prog (Builtin.append_ #[23, 23] 23 #[(.slice l2a l2n l2c), (.slice (some (Addr.mk b14 0 none)) 1 1)]) w15 = .ok (.slice l16a l16n l16c) w17 ∧ (R (.pointer (some a1)) x9 (.slice l16a l16n l16c) (.slice l3a l3n l3c) (.int .i64 n4) (.int .i64 (IntKind.wrap .i64 (n5 + 1))) w17)) (R (.pointer (some a1)) x9 (.slice l2a l2n l2c) (.slice l3a l3n l3c) (.int .i64 n4) (.int .i64 (IntKind.wrap .i64 (n5 + 1))) w)) (R (.pointer (some a1)) x9 (.slice l2a l2n l2c) (.slice l3a l3n l3c) (.int .i64 n4) (.int .i64 (IntKind.wrap .i64 (n5 + 1))) w)) (K1 x9 (.slice l2a l2n l2c) w)
def F8_2 (K1 : Value → Value → World → Prop) : Nat → Value → Value → Value → Value → Value → Value → World → Prop
  | 0 => fun _ _ _ _ _ _ _ => False
  | n + 1 => F8_2B (F8_2 K1 n) K1
def F8_2O (Q : Post) (t : Tm) (w : World) : Prop := ∃ n, F8_2 (fun y9 y12 w => ∀ g, rsh [(12, (.one .slc))] (upds g [(9, y9), (12, y12)]) fun t => Q (.exit 1) t w) n (t 5) (t 9) (t 12) (t 42) (t 43) (t 44) w
theorem F8_2_step (K1 : Value → Value → World → Prop) (n : Nat) (t : Tm) (w : World) : (F8_2 K1 (n + 1) (t 5) (t 9) (t 12) (t 42) (t 43) (t 44) w) = rsh [(5, (.one .adr)), (12, (.one .slc)), (42, (.one .slc)), (43, (.one (.int .i64))), (44, (.one (.int .i64)))] t (fun t => vc Try.prog (orcOf []) [0, 0, 1, 0, 1, 1, 1, 1, 1] (getAt F8_code [0, 0, 1, 0, 1, 1, 1, 1, 1]) (fun o t w => match o with | .normal => F8_2 K1 n (t 5) (t 9) (t 12) (t 42) (t 43) (t 44) w | .exit i => F8_2C K1 (.exit i) t w | .ret => F8_2C K1 .ret t w) t w) := by kernel_rfl
theorem F8_2_ok : ∀ Q t w, F8_2O Q t w → W Try.prog Try.f8.ntmps (getAt F8_code [0, 1, 0, 1, 1, 1, 1, 1]) Q t w := by
  intro Q t w ⟨n, h⟩
  refine (W_loop (P := Try.prog) (b := getAt F8_code [0, 0, 1, 0, 1, 1, 1, 1, 1]) (Q := F8_2C (fun y9 y12 w => ∀ g, rsh [(12, (.one .slc))] (upds g [(9, y9), (12, y12)]) fun t => Q (.exit 1) t w)) (G := fun n t w => F8_2 (fun y9 y12 w => ∀ g, rsh [(12, (.one .slc))] (upds g [(9, y9), (12, y12)]) fun t => Q (.exit 1) t w) n (t 5) (t 9) (t 12) (t 42) (t 43) (t 44) w) (fun _ _ h => h) (fun n t w h => ?_) n t w h).mono ?_
  · rw [F8_2_step] at h
    exact vc_sound mixed (orcNil F8_code) _ _ rfl (okC_at F8_code_ok [0, 0, 1, 0, 1, 1, 1, 1, 1]) _ _ _ (rsh_out h)
  · intro o t w q
    cases o with
    | normal => exact q.elim
    | exit i =>
      unfold F8_2C at q
      simp only at q
      split at q
      · rename_i hi
        rw [nbeq] at hi
        subst hi
        exact out_ok [9, 12] q
      · exact q.elim
    | ret => exact q.elim
def F8_3C (Kr : Value → Value → World → Prop) : Post := fun o t w => match o with | .normal => False | .exit i => (False) | .ret => Kr (t 6) (t 7) w
def F8_3 (Kr : Value → Value → World → Prop) (x5 : Value) (x9 : Value) (w : World) : Prop :=
  rdA x5 fun a1 => ldC a1 w fun l2a l2n l2c => Calls Try.prog 25 #[(.slice l2a l2n l2c)] w fun e5 w4 => ∃ l3a l3n l3c, e5 = .returned (.slice l3a l3n l3c) ∧ (∃ k12 : Nat, F8_2 (fun y9_5 y12_5 w7 => ∀ _g8 : Tm, rdC y12_5 fun l9a l9n l9c => Calls Try.prog 26 #[(.slice l9a l9n l9c), y9_5] w7 fun e11 w10 => e11 = .returned (.tuple #[]) ∧ (Kr (.slice l9a l9n l9c) (.int .i64 0) w10)) k12 (.pointer (some a1)) x9 (.slice none 0 0) (.slice l3a l3n l3c) (.int .i64 (l3n : Int)) (.int .i64 0) w4)
def F8_3O (Q : Post) (t : Tm) (w : World) : Prop := F8_3 (fun y6 y7 w => ∀ g, rsh [(6, (.one .slc)), (7, (.one (.int .i64)))] (upds g [(6, y6), (7, y7)]) fun t => Q .ret t w) (t 5) (t 9) w
theorem F8_3_step (Kr : Value → Value → World → Prop) (t : Tm) (w : World) : (F8_3 Kr (t 5) (t 9) w) = rsh [(5, (.one .adr))] t (fun t => vc Try.prog (orcOf [([0, 1, 0, 1, 1, 1, 1, 1], F8_2O)]) [1, 1, 1, 1] (getAt F8_code [1, 1, 1, 1]) (F8_3C Kr) t w) := by kernel_rfl
theorem F8_3_ok : ∀ Q t w, F8_3O Q t w → W Try.prog Try.f8.ntmps (getAt F8_code [1, 1, 1, 1]) Q t w := by
  intro Q t w h
  unfold F8_3O at h
  rw [F8_3_step] at h
  refine (vc_sound mixed (orcCons (π := [0, 1, 0, 1, 1, 1, 1, 1]) F8_2_ok (orcNil F8_code)) _ _ rfl (okC_at F8_code_ok [1, 1, 1, 1]) _ _ _ (rsh_out h)).mono ?_
  intro o t w q
  cases o with
  | normal => exact q.elim
  | exit i => exact q.elim
  | ret => exact out_ok [6, 7] q
def F8 (x0 : Value) (x1 : Value) (x2 : Value) (w : World) (K : Value → World → Prop) : Prop :=
  rdI .i64 x0 fun n1 => rdI .i64 x1 fun n2 => rdC x2 fun l3a l3n l3c => alc (.cells #[(.slice l3a l3n l3c)] 22) w fun b4 w5 => ldC (Addr.mk b4 0 none) w5 fun l6a l6n l6c => Calls Try.prog 13 #[(.slice l6a l6n l6c)] w5 fun e9 w8 => ∃ n7, e9 = .returned (.int .i64 n7) ∧ (br (n7 != 0) (K (.tuple #[(.slice none 0 0), (.int .i64 n7)]) w8) (br (n1 == 0) (alc (.cells #[(.int .i64 0)] 3) w8 fun b10 w11 => stc (Addr.mk b10 0 none) (.int .i64 0) w11 fun w12 => br (decide ((n2 : Int) ≥ 0)) (ldC (Addr.mk b4 0 none) w12 fun l13a l13n l13c => br (decide ((n2 : Int) < (l13n : Int))) (stc (Addr.mk b10 0 none) (.int .i64 (IntKind.wrap .i64 (n2 + 1))) w12 fun w14 => F8_1 (fun y5_14 y9_14 w16 => ∀ _g17 : Tm, rdA y5_14 fun a18 => F8_3 (fun y6_18 y7_18 w20 => ∀ _g21 : Tm, rdC y6_18 fun l22a l22n l22c => rdI .i64 y7_18 fun n23 => K (.tuple #[(.slice l22a l22n l22c), (.int .i64 n23)]) w20) (.pointer (some a18)) y9_14 w16) (.pointer (some (Addr.mk b4 0 none))) (.pointer (some (Addr.mk b10 0 none))) w14) (F8_1 (fun y5_23 y9_23 w25 => ∀ _g26 : Tm, rdA y5_23 fun a27 => F8_3 (fun y6_27 y7_27 w29 => ∀ _g30 : Tm, rdC y6_27 fun l31a l31n l31c => rdI .i64 y7_27 fun n32 => K (.tuple #[(.slice l31a l31n l31c), (.int .i64 n32)]) w29) (.pointer (some a27)) y9_23 w25) (.pointer (some (Addr.mk b4 0 none))) (.pointer (some (Addr.mk b10 0 none))) w12)) (F8_1 (fun y5_32 y9_32 w34 => ∀ _g35 : Tm, rdA y5_32 fun a36 => F8_3 (fun y6_36 y7_36 w38 => ∀ _g39 : Tm, rdC y6_36 fun l40a l40n l40c => rdI .i64 y7_36 fun n41 => K (.tuple #[(.slice l40a l40n l40c), (.int .i64 n41)]) w38) (.pointer (some a36)) y9_32 w34) (.pointer (some (Addr.mk b4 0 none))) (.pointer (some (Addr.mk b10 0 none))) w12)) (br (n1 == 1) (F8_3 (fun y6_41 y7_41 w43 => ∀ _g44 : Tm, rdC y6_41 fun l45a l45n l45c => rdI .i64 y7_41 fun n46 => K (.tuple #[(.slice l45a l45n l45c), (.int .i64 n46)]) w43) (.pointer (some (Addr.mk b4 0 none))) (.func (.func 22) #[] #[(.pointer (some (Addr.mk b4 0 none)))]) w8) (br (n1 == 2) (F8_3 (fun y6_46 y7_46 w48 => ∀ _g49 : Tm, rdC y6_46 fun l50a l50n l50c => rdI .i64 y7_46 fun n51 => K (.tuple #[(.slice l50a l50n l50c), (.int .i64 n51)]) w48) (.pointer (some (Addr.mk b4 0 none))) (.func (.func 24) #[] #[(.pointer (some (Addr.mk b4 0 none)))]) w8) (K (.tuple #[(.slice none 0 0), (.int .i64 5)]) w8)))))
theorem F8_step (x0 : Value) (x1 : Value) (x2 : Value) (w : World) (K : Value → World → Prop) : (F8 x0 x1 x2 w K) = rsh [(0, (.one (.int .i64))), (1, (.one (.int .i64))), (2, (.one .slc))] (args0 #[x0, x1, x2]) (fun t => vc Try.prog (orcOf [([1, 1, 0, 1, 0, 1, 0, 1, 1, 1], F8_1O), ([0, 1, 0, 1, 1, 1, 1, 1], F8_2O), ([1, 1, 1, 1], F8_3O)]) [] F8_code (retQ Try.prog Try.f8 K) t w) := by kernel_rfl
theorem F8_ok {x0 x1 x2 : Value} {w : World} {K : Value → World → Prop} (h : F8 x0 x1 x2 w K) : Calls Try.prog 8 #[x0, x1, x2] w fun e w' => ∃ v, e = .returned v ∧ K v w' := by
  rw [F8_step] at h
  exact calls_of (c := F8_code) mixed Try.func8 rfl (nlt rfl) (vc_sound mixed (orcCons (π := [1, 1, 0, 1, 0, 1, 0, 1, 1, 1]) F8_1_ok (orcCons (π := [0, 1, 0, 1, 1, 1, 1, 1]) F8_2_ok (orcCons (π := [1, 1, 1, 1]) F8_3_ok (orcNil F8_code)))) F8_code [] rfl F8_code_ok _ _ _ (rsh_out h))

/-! ropewalk/ropewalkref18.Order -/
noncomputable def F9_code : Code := Try.f9.body.getD .skip
theorem F9_code_ok : okC Try.prog Try.f9.ntmps F9_code = true := by kernel_rfl
def F9_1C (K2 : Value → Value → Value → Value → Value → Value → Value → World → Prop) : Post := fun o t w => match o with | .normal => False | .exit i => (match Nat.beq i 2 with | true => K2 (t 0) (t 1) (t 2) (t 9) (t 10) (t 11) (t 12) w | false => False) | .ret => False
def F9_1B (R : Value → Value → Value → Value → Value → Value → Value → World → Prop) (K2 : Value → Value → Value → Value → Value → Value → Value → World → Prop) (x0 : Value) (x1 : Value) (x2 : Value) (x9 : Value) (x10 : Value) (x11 : Value) (x12 : Value) (w : World) : Prop :=
  rdI .i64 x0 fun n1 => rdI .i64 x1 fun n2 => rdC x2 fun l3a l3n l3c => rdC x9 fun l4a l4n l4c => rdC x10 fun l5a l5n l5c => rdI .i64 x11 fun n6 => rdI .i64 x12 fun n7 => drw w fun w8 => br (decide ((n7 : Int) < (l4n : Int))) (ixS 1 l4a l4n n7 fun a9 => ldI .i64 a9 w8 fun n10 => ixS 1 l5a l5n n6 fun a11 => ldI .i64 a11 w8 fun n12 => Calls Try.prog 27 #[(.int .i64 n1), (.int .i64 n2), (.slice l3a l3n l3c), (.int .i64 n10), (.int .i64 n12)] w8 fun e15 w14 => ∃ b13, e15 = .returned (.bool b13) ∧ (br b13 (R (.int .i64 n1) (.int .i64 n2) (.slice l3a l3n l3c) (.slice l4a l4n l4c) (.slice l5a l5n l5c) (.int .i64 n6) (.int .i64 (IntKind.wrap .i64 (n7 + 1))) w14) (K2 (.int .i64 n1) (.int .i64 n2) (.slice l3a l3n l3c) (.slice l4a l4n l4c) (.slice l5a l5n l5c) (.int .i64 n6) (.int .i64 n7) w14))) (K2 (.int .i64 n1) (.int .i64 n2) (.slice l3a l3n l3c) (.slice l4a l4n l4c) (.slice l5a l5n l5c) (.int .i64 n6) (.int .i64 n7) w8)
def F9_1 (K2 : Value → Value → Value → Value → Value → Value → Value → World → Prop) : Nat → Value → Value → Value → Value → Value → Value → Value → World → Prop
  | 0 => fun _ _ _ _ _ _ _ _ => False
  | n + 1 => F9_1B (F9_1 K2 n) K2
def F9_1O (Q : Post) (t : Tm) (w : World) : Prop := ∃ n, F9_1 (fun y0 y1 y2 y9 y10 y11 y12 w => ∀ g, rsh [(0, (.one (.int .i64))), (1, (.one (.int .i64))), (2, (.one .slc)), (9, (.one .slc)), (10, (.one .slc)), (11, (.one (.int .i64))), (12, (.one (.int .i64)))] (upds g [(0, y0), (1, y1), (2, y2), (9, y9), (10, y10), (11, y11), (12, y12)]) fun t => Q (.exit 2) t w) n (t 0) (t 1) (t 2) (t 9) (t 10) (t 11) (t 12) w
theorem F9_1_step (K2 : Value → Value → Value → Value → Value → Value → Value → World → Prop) (n : Nat) (t : Tm) (w : World) : (F9_1 K2 (n + 1) (t 0) (t 1) (t 2) (t 9) (t 10) (t 11) (t 12) w) = rsh [(0, (.one (.int .i64))), (1, (.one (.int .i64))), (2, (.one .slc)), (9, (.one .slc)), (10, (.one .slc)), (11, (.one (.int .i64))), (12, (.one (.int .i64)))] t (fun t => vc Try.prog (orcOf []) [0, 0, 0, 1, 0, 0, 1, 0, 0, 1, 0, 1, 1, 1, 1, 1, 1] (getAt F9_code [0, 0, 0, 1, 0, 0, 1, 0, 0, 1, 0, 1, 1, 1, 1, 1, 1]) (fun o t w => match o with | .normal => F9_1 K2 n (t 0) (t 1) (t 2) (t 9) (t 10) (t 11) (t 12) w | .exit i => F9_1C K2 (.exit i) t w | .ret => F9_1C K2 .ret t w) t w) := by kernel_rfl
theorem F9_1_ok : ∀ Q t w, F9_1O Q t w → W Try.prog Try.f9.ntmps (getAt F9_code [0, 0, 1, 0, 0, 1, 0, 0, 1, 0, 1, 1, 1, 1, 1, 1]) Q t w := by
  intro Q t w ⟨n, h⟩
  refine (W_loop (P := Try.prog) (b := getAt F9_code [0, 0, 0, 1, 0, 0, 1, 0, 0, 1, 0, 1, 1, 1, 1, 1, 1]) (Q := F9_1C (fun y0 y1 y2 y9 y10 y11 y12 w => ∀ g, rsh [(0, (.one (.int .i64))), (1, (.one (.int .i64))), (2, (.one .slc)), (9, (.one .slc)), (10, (.one .slc)), (11, (.one (.int .i64))), (12, (.one (.int .i64)))] (upds g [(0, y0), (1, y1), (2, y2), (9, y9), (10, y10), (11, y11), (12, y12)]) fun t => Q (.exit 2) t w)) (G := fun n t w => F9_1 (fun y0 y1 y2 y9 y10 y11 y12 w => ∀ g, rsh [(0, (.one (.int .i64))), (1, (.one (.int .i64))), (2, (.one .slc)), (9, (.one .slc)), (10, (.one .slc)), (11, (.one (.int .i64))), (12, (.one (.int .i64)))] (upds g [(0, y0), (1, y1), (2, y2), (9, y9), (10, y10), (11, y11), (12, y12)]) fun t => Q (.exit 2) t w) n (t 0) (t 1) (t 2) (t 9) (t 10) (t 11) (t 12) w) (fun _ _ h => h) (fun n t w h => ?_) n t w h).mono ?_
  · rw [F9_1_step] at h
    exact vc_sound mixed (orcNil F9_code) _ _ rfl (okC_at F9_code_ok [0, 0, 0, 1, 0, 0, 1, 0, 0, 1, 0, 1, 1, 1, 1, 1, 1]) _ _ _ (rsh_out h)
  · intro o t w q
    cases o with
    | normal => exact q.elim
    | exit i =>
      unfold F9_1C at q
      simp only at q
      split at q
      · rename_i hi
        rw [nbeq] at hi
        subst hi
        exact out_ok [0, 1, 2, 9, 10, 11, 12] q
      · exact q.elim
    | ret => exact q.elim
def F9_2C (K0 : Value → World → Prop) : Post := fun o t w => match o with | .normal => False | .exit i => (match Nat.beq i 0 with | true => K0 (t 9) w | false => False) | .ret => False
def F9_2B (R : Value → Value → Value → Value → Value → Value → World → Prop) (K0 : Value → World → Prop) (x0 : Value) (x1 : Value) (x2 : Value) (x9 : Value) (x10 : Value) (x11 : Value) (w : World) : Prop :=
  rdI .i64 x0 fun n1 => rdI .i64 x1 fun n2 => rdC x2 fun l3a l3n l3c => rdC x9 fun l4a l4n l4c => rdC x10 fun l5a l5n l5c => rdI .i64 x11 fun n6 => br (decide ((n6 : Int) < (l5n : Int))) (∃ k31 : Nat, F9_1 (fun y0_6 y1_6 y2_6 y9_6 y10_6 y11_6 y12_6 w8 => ∀ _g9 : Tm, rdI .i64 y0_6 fun n10 => rdI .i64 y1_6 fun n11 => rdC y2_6 fun l12a l12n l12c => rdC y9_6 fun l13a l13n l13c => rdC y10_6 fun l14a l14n l14c => rdI .i64 y11_6 fun n15 => rdI .i64 y12_6 fun n16 => ∃ l17a l17n l17c w18, Sem.run Try.prog (Instr.buildSlice 23 0 #[]) w8 = .ok (.slice l17a l17n l17c) w18 ∧ (slS 1 l13a l13n l13c none (some (.int .i64 n16)) fun l19a l19n l19c => ∃ l20a l20n l20c w21, Sem.run Try.prog (Builtin.append_ #[23, 23] 23 #[(.slice l17a l17n l17c), (.slice l19a l19n l19c)]) w18 = .ok (.slice l20a l20n l20c) w21 ∧ (ixS 1 l14a l14n n15 fun a22 => ldI .i64 a22 w21 fun n23 => alc (.cells #[(.int .i64 n23)] 3) w21 fun b24 w25 => ∃ l26a l26n l26c w27, Sem.run Try.prog (Builtin.append_ #[23, 23] 23 #[(.slice l20a l20n l20c), (.slice (some (Addr.mk b24 0 none)) 1 1)]) w25 = .ok (.slice l26a l26n l26c) w27 ∧ (slS 1 l13a l13n l13c (some (.int .i64 n16)) none fun l28a l28n l28c => ∃ l29a l29n l29c w30, Sem.run Try.prog (Builtin.append_ #[23, 23] 23 #[(.slice l26a l26n l26c), (.slice l28a l28n l28c)]) w27 = .ok (.slice l29a l29n l29c) w30 ∧ (R (.int .i64 n10) (.int .i64 n11) (.slice l12a l12n l12c) (.slice l29a l29n l29c) (.slice l14a l14n l14c) (.int .i64 (IntKind.wrap .i64 (n15 + 1))) w30))))) k31 (.int .i64 n1) (.int .i64 n2) (.slice l3a l3n l3c) (.slice l4a l4n l4c) (.slice l5a l5n l5c) (.int .i64 n6) (.int .i64 0) w) (K0 (.slice l4a l4n l4c) w)
def F9_2 (K0 : Value → World → Prop) : Nat → Value → Value → Value → Value → Value → Value → World → Prop
  | 0 => fun _ _ _ _ _ _ _ => False
  | n + 1 => F9_2B (F9_2 K0 n) K0
def F9_2O (Q : Post) (t : Tm) (w : World) : Prop := ∃ n, F9_2 (fun y9 w => ∀ g, rsh [(9, (.one .slc))] (upds g [(9, y9)]) fun t => Q (.exit 0) t w) n (t 0) (t 1) (t 2) (t 9) (t 10) (t 11) w
theorem F9_2_step (K0 : Value → World → Prop) (n : Nat) (t : Tm) (w : World) : (F9_2 K0 (n + 1) (t 0) (t 1) (t 2) (t 9) (t 10) (t 11) w) = rsh [(0, (.one (.int .i64))), (1, (.one (.int .i64))), (2, (.one .slc)), (9, (.one .slc)), (10, (.one .slc)), (11, (.one (.int .i64)))] t (fun t => vc Try.prog (orcOf [([0, 0, 1, 0, 0, 1, 0, 0, 1, 0, 1, 1, 1, 1, 1, 1], F9_1O)]) [0, 0, 1, 0, 1, 1, 1, 1, 1, 1] (getAt F9_code [0, 0, 1, 0, 1, 1, 1, 1, 1, 1]) (fun o t w => match o with | .normal => F9_2 K0 n (t 0) (t 1) (t 2) (t 9) (t 10) (t 11) w | .exit i => F9_2C K0 (.exit i) t w | .ret => F9_2C K0 .ret t w) t w) := by kernel_rfl
theorem F9_2_ok : ∀ Q t w, F9_2O Q t w → W Try.prog Try.f9.ntmps (getAt F9_code [0, 1, 0, 1, 1, 1, 1, 1, 1]) Q t w := by
  intro Q t w ⟨n, h⟩
  refine (W_loop (P := Try.prog) (b := getAt F9_code [0, 0, 1, 0, 1, 1, 1, 1, 1, 1]) (Q := F9_2C (fun y9 w => ∀ g, rsh [(9, (.one .slc))] (upds g [(9, y9)]) fun t => Q (.exit 0) t w)) (G := fun n t w => F9_2 (fun y9 w => ∀ g, rsh [(9, (.one .slc))] (upds g [(9, y9)]) fun t => Q (.exit 0) t w) n (t 0) (t 1) (t 2) (t 9) (t 10) (t 11) w) (fun _ _ h => h) (fun n t w h => ?_) n t w h).mono ?_
  · rw [F9_2_step] at h
    exact vc_sound mixed (orcCons (π := [0, 0, 1, 0, 0, 1, 0, 0, 1, 0, 1, 1, 1, 1, 1, 1]) F9_1_ok (orcNil F9_code)) _ _ rfl (okC_at F9_code_ok [0, 0, 1, 0, 1, 1, 1, 1, 1, 1]) _ _ _ (rsh_out h)
  · intro o t w q
    cases o with
    | normal => exact q.elim
    | exit i =>
      unfold F9_2C at q
      simp only at q
      split at q
      · rename_i hi
        rw [nbeq] at hi
        subst hi
        exact out_ok [9] q
      · exact q.elim
    | ret => exact q.elim
def F9_3C (Kr : Value → Value → World → Prop) : Post := fun o t w => match o with | .normal => False | .exit i => (False) | .ret => Kr (t 6) (t 7) w
def F9_3 (Kr : Value → Value → World → Prop) (x0 : Value) (x1 : Value) (x2 : Value) (w : World) : Prop :=
  rdI .i64 x0 fun n1 => rdI .i64 x1 fun n2 => rdC x2 fun l3a l3n l3c => Calls Try.prog 18 #[(.slice l3a l3n l3c)] w fun e6 w5 => ∃ l4a l4n l4c, e6 = .returned (.slice l4a l4n l4c) ∧ (∃ k11 : Nat, F9_2 (fun y9_6 w8 => ∀ _g9 : Tm, rdC y9_6 fun l10a l10n l10c => Kr (.slice l10a l10n l10c) (.int .i64 0) w8) k11 (.int .i64 n1) (.int .i64 n2) (.slice l3a l3n l3c) (.slice none 0 0) (.slice l4a l4n l4c) (.int .i64 0) w5)
def F9_3O (Q : Post) (t : Tm) (w : World) : Prop := F9_3 (fun y6 y7 w => ∀ g, rsh [(6, (.one .slc)), (7, (.one (.int .i64)))] (upds g [(6, y6), (7, y7)]) fun t => Q .ret t w) (t 0) (t 1) (t 2) w
theorem F9_3_step (Kr : Value → Value → World → Prop) (t : Tm) (w : World) : (F9_3 Kr (t 0) (t 1) (t 2) w) = rsh [(0, (.one (.int .i64))), (1, (.one (.int .i64))), (2, (.one .slc))] t (fun t => vc Try.prog (orcOf [([0, 0, 1, 0, 0, 1, 0, 0, 1, 0, 1, 1, 1, 1, 1, 1], F9_1O), ([0, 1, 0, 1, 1, 1, 1, 1, 1], F9_2O)]) [1, 1, 1, 1] (getAt F9_code [1, 1, 1, 1]) (F9_3C Kr) t w) := by kernel_rfl
theorem F9_3_ok : ∀ Q t w, F9_3O Q t w → W Try.prog Try.f9.ntmps (getAt F9_code [1, 1, 1, 1]) Q t w := by
  intro Q t w h
  unfold F9_3O at h
  rw [F9_3_step] at h
  refine (vc_sound mixed (orcCons (π := [0, 0, 1, 0, 0, 1, 0, 0, 1, 0, 1, 1, 1, 1, 1, 1]) F9_1_ok (orcCons (π := [0, 1, 0, 1, 1, 1, 1, 1, 1]) F9_2_ok (orcNil F9_code))) _ _ rfl (okC_at F9_code_ok [1, 1, 1, 1]) _ _ _ (rsh_out h)).mono ?_
  intro o t w q
  cases o with
  | normal => exact q.elim
  | exit i => exact q.elim
  | ret => exact out_ok [6, 7] q
def F9 (x0 : Value) (x1 : Value) (x2 : Value) (w : World) (K : Value → World → Prop) : Prop :=
  rdI .i64 x0 fun n1 => rdI .i64 x1 fun n2 => rdC x2 fun l3a l3n l3c => Calls Try.prog 14 #[(.slice l3a l3n l3c)] w fun e6 w5 => ∃ n4, e6 = .returned (.int .i64 n4) ∧ (br (n4 != 0) (K (.tuple #[(.slice none 0 0), (.int .i64 n4)]) w5) (br (decide ((n1 : Int) < 0)) (K (.tuple #[(.slice none 0 0), (.int .i64 5)]) w5) (br (decide ((n1 : Int) > 2)) (K (.tuple #[(.slice none 0 0), (.int .i64 5)]) w5) (F9_3 (fun y6_6 y7_6 w8 => ∀ _g9 : Tm, rdC y6_6 fun l10a l10n l10c => rdI .i64 y7_6 fun n11 => K (.tuple #[(.slice l10a l10n l10c), (.int .i64 n11)]) w8) (.int .i64 n1) (.int .i64 n2) (.slice l3a l3n l3c) w5))))
theorem F9_step (x0 : Value) (x1 : Value) (x2 : Value) (w : World) (K : Value → World → Prop) : (F9 x0 x1 x2 w K) = rsh [(0, (.one (.int .i64))), (1, (.one (.int .i64))), (2, (.one .slc))] (args0 #[x0, x1, x2]) (fun t => vc Try.prog (orcOf [([0, 0, 1, 0, 0, 1, 0, 0, 1, 0, 1, 1, 1, 1, 1, 1], F9_1O), ([0, 1, 0, 1, 1, 1, 1, 1, 1], F9_2O), ([1, 1, 1, 1], F9_3O)]) [] F9_code (retQ Try.prog Try.f9 K) t w) := by kernel_rfl
theorem F9_ok {x0 x1 x2 : Value} {w : World} {K : Value → World → Prop} (h : F9 x0 x1 x2 w K) : Calls Try.prog 9 #[x0, x1, x2] w fun e w' => ∃ v, e = .returned v ∧ K v w' := by
  rw [F9_step] at h
  exact calls_of (c := F9_code) mixed Try.func9 rfl (nlt rfl) (vc_sound mixed (orcCons (π := [0, 0, 1, 0, 0, 1, 0, 0, 1, 0, 1, 1, 1, 1, 1, 1]) F9_1_ok (orcCons (π := [0, 1, 0, 1, 1, 1, 1, 1, 1]) F9_2_ok (orcCons (π := [1, 1, 1, 1]) F9_3_ok (orcNil F9_code)))) F9_code [] rfl F9_code_ok _ _ _ (rsh_out h))

/-! ropewalk/sched.Next -/
noncomputable def F10_code : Code := Try.f10.body.getD .skip
theorem F10_code_ok : okC Try.prog Try.f10.ntmps F10_code = true := by kernel_rfl
def F10 (x0 : Value) (x1 : Value) (x2 : Value) (w : World) (K : Value → World → Prop) : Prop :=
  rdI .i64 x0 fun n1 => rdI .i64 x1 fun n2 => rdC x2 fun l3a l3n l3c => Calls Try.prog 8 #[(.int .i64 n1), (.int .i64 n2), (.slice l3a l3n l3c)] w fun e7 w6 => ∃ l4a l4n l4c n5, e7 = .returned (.tuple #[(.slice l4a l4n l4c), (.int .i64 n5)]) ∧ (br (n5 != 0) (K (.tuple #[(.int .i64 0), (.bool false), (.int .i64 n5)]) w6) (br ((l4n : Int) == 0) (K (.tuple #[(.int .i64 0), (.bool false), (.int .i64 n5)]) w6) (ixS 1 l4a l4n 0 fun a8 => ldI .i64 a8 w6 fun n9 => K (.tuple #[(.int .i64 n9), (.bool true), (.int .i64 0)]) w6)))
theorem F10_step (x0 : Value) (x1 : Value) (x2 : Value) (w : World) (K : Value → World → Prop) : (F10 x0 x1 x2 w K) = rsh [(0, (.one (.int .i64))), (1, (.one (.int .i64))), (2, (.one .slc))] (args0 #[x0, x1, x2]) (fun t => vc Try.prog (orcOf []) [] F10_code (retQ Try.prog Try.f10 K) t w) := by kernel_rfl
theorem F10_ok {x0 x1 x2 : Value} {w : World} {K : Value → World → Prop} (h : F10 x0 x1 x2 w K) : Calls Try.prog 10 #[x0, x1, x2] w fun e w' => ∃ v, e = .returned v ∧ K v w' := by
  rw [F10_step] at h
  exact calls_of (c := F10_code) mixed Try.func10 rfl (nlt rfl) (vc_sound mixed (orcNil F10_code) F10_code [] rfl F10_code_ok _ _ _ (rsh_out h))

/-! ropewalk/ropewalkref18.Next -/
noncomputable def F11_code : Code := Try.f11.body.getD .skip
theorem F11_code_ok : okC Try.prog Try.f11.ntmps F11_code = true := by kernel_rfl
def F11 (x0 : Value) (x1 : Value) (x2 : Value) (w : World) (K : Value → World → Prop) : Prop :=
  rdI .i64 x0 fun n1 => rdI .i64 x1 fun n2 => rdC x2 fun l3a l3n l3c => Calls Try.prog 9 #[(.int .i64 n1), (.int .i64 n2), (.slice l3a l3n l3c)] w fun e7 w6 => ∃ l4a l4n l4c n5, e7 = .returned (.tuple #[(.slice l4a l4n l4c), (.int .i64 n5)]) ∧ (br (n5 != 0) (K (.tuple #[(.int .i64 0), (.bool false), (.int .i64 n5)]) w6) (br ((l4n : Int) == 0) (K (.tuple #[(.int .i64 0), (.bool false), (.int .i64 n5)]) w6) (ixS 1 l4a l4n 0 fun a8 => ldI .i64 a8 w6 fun n9 => K (.tuple #[(.int .i64 n9), (.bool true), (.int .i64 0)]) w6)))
theorem F11_step (x0 : Value) (x1 : Value) (x2 : Value) (w : World) (K : Value → World → Prop) : (F11 x0 x1 x2 w K) = rsh [(0, (.one (.int .i64))), (1, (.one (.int .i64))), (2, (.one .slc))] (args0 #[x0, x1, x2]) (fun t => vc Try.prog (orcOf []) [] F11_code (retQ Try.prog Try.f11 K) t w) := by kernel_rfl
theorem F11_ok {x0 x1 x2 : Value} {w : World} {K : Value → World → Prop} (h : F11 x0 x1 x2 w K) : Calls Try.prog 11 #[x0, x1, x2] w fun e w' => ∃ v, e = .returned v ∧ K v w' := by
  rw [F11_step] at h
  exact calls_of (c := F11_code) mixed Try.func11 rfl (nlt rfl) (vc_sound mixed (orcNil F11_code) F11_code [] rfl F11_code_ok _ _ _ (rsh_out h))

/-! ropewalk/ropewalkref14.Same -/
noncomputable def F12_code : Code := Try.f12.body.getD .skip
theorem F12_code_ok : okC Try.prog Try.f12.ntmps F12_code = true := by kernel_rfl
def F12_1C (K0 : World → Prop) (Kr : Value → World → Prop) : Post := fun o t w => match o with | .normal => False | .exit i => (match Nat.beq i 0 with | true => K0  w | false => False) | .ret => Kr (t 4) w
def F12_1B (R : Value → Value → Value → World → Prop) (K0 : World → Prop) (Kr : Value → World → Prop) (x0 : Value) (x1 : Value) (x5 : Value) (w : World) : Prop :=
  rdC x0 fun l1a l1n l1c => rdC x1 fun l2a l2n l2c => rdI .i64 x5 fun n3 => br (decide ((n3 : Int) < (l1n : Int))) (drw w fun w4 => ixS 1 l1a l1n n3 fun a5 => ldI .i64 a5 w4 fun n6 => ixS 1 l2a l2n n3 fun a7 => ldI .i64 a7 w4 fun n8 => br (n6 != n8) (Kr (.bool false) w4) (R (.slice l1a l1n l1c) (.slice l2a l2n l2c) (.int .i64 (IntKind.wrap .i64 (n3 + 1))) w4)) (K0 w)
def F12_1 (K0 : World → Prop) (Kr : Value → World → Prop) : Nat → Value → Value → Value → World → Prop
  | 0 => fun _ _ _ _ => False
  | n + 1 => F12_1B (F12_1 K0 Kr n) K0 Kr
def F12_1O (Q : Post) (t : Tm) (w : World) : Prop := ∃ n, F12_1 (fun w => ∀ g, rsh [] (upds g []) fun t => Q (.exit 0) t w) (fun y4 w => ∀ g, rsh [(4, (.one .bool))] (upds g [(4, y4)]) fun t => Q .ret t w) n (t 0) (t 1) (t 5) w
theorem F12_1_step (K0 : World → Prop) (Kr : Value → World → Prop) (n : Nat) (t : Tm) (w : World) : (F12_1 K0 Kr (n + 1) (t 0) (t 1) (t 5) w) = rsh [(0, (.one .slc)), (1, (.one .slc)), (5, (.one (.int .i64)))] t (fun t => vc Try.prog (orcOf []) [0, 0, 1, 0, 1, 1] (getAt F12_code [0, 0, 1, 0, 1, 1]) (fun o t w => match o with | .normal => F12_1 K0 Kr n (t 0) (t 1) (t 5) w | .exit i => F12_1C K0 Kr (.exit i) t w | .ret => F12_1C K0 Kr .ret t w) t w) := by kernel_rfl
theorem F12_1_ok : ∀ Q t w, F12_1O Q t w → W Try.prog Try.f12.ntmps (getAt F12_code [0, 1, 0, 1, 1]) Q t w := by
  intro Q t w ⟨n, h⟩
  refine (W_loop (P := Try.prog) (b := getAt F12_code [0, 0, 1, 0, 1, 1]) (Q := F12_1C (fun w => ∀ g, rsh [] (upds g []) fun t => Q (.exit 0) t w) (fun y4 w => ∀ g, rsh [(4, (.one .bool))] (upds g [(4, y4)]) fun t => Q .ret t w)) (G := fun n t w => F12_1 (fun w => ∀ g, rsh [] (upds g []) fun t => Q (.exit 0) t w) (fun y4 w => ∀ g, rsh [(4, (.one .bool))] (upds g [(4, y4)]) fun t => Q .ret t w) n (t 0) (t 1) (t 5) w) (fun _ _ h => h) (fun n t w h => ?_) n t w h).mono ?_
  · rw [F12_1_step] at h
    exact vc_sound mixed (orcNil F12_code) _ _ rfl (okC_at F12_code_ok [0, 0, 1, 0, 1, 1]) _ _ _ (rsh_out h)
  · intro o t w q
    cases o with
    | normal => exact q.elim
    | exit i =>
      unfold F12_1C at q
      simp only at q
      split at q
      · rename_i hi
        rw [nbeq] at hi
        subst hi
        exact out_ok [] q
      · exact q.elim
    | ret => exact out_ok [4] q
def F12 (x0 : Value) (x1 : Value) (w : World) (K : Value → World → Prop) : Prop :=
  rdC x0 fun l1a l1n l1c => rdC x1 fun l2a l2n l2c => br ((l1n : Int) != (l2n : Int)) (K (.bool false) w) (∃ k10 : Nat, F12_1 (fun w4 => ∀ _g5 : Tm, K (.bool true) w4) (fun y4_5 w7 => ∀ _g8 : Tm, rdB y4_5 fun b9 => K (.bool b9) w7) k10 (.slice l1a l1n l1c) (.slice l2a l2n l2c) (.int .i64 0) w)
theorem F12_step (x0 : Value) (x1 : Value) (w : World) (K : Value → World → Prop) : (F12 x0 x1 w K) = rsh [(0, (.one .slc)), (1, (.one .slc))] (args0 #[x0, x1]) (fun t => vc Try.prog (orcOf [([0, 1, 0, 1, 1], F12_1O)]) [] F12_code (retQ Try.prog Try.f12 K) t w) := by kernel_rfl
theorem F12_ok {x0 x1 : Value} {w : World} {K : Value → World → Prop} (h : F12 x0 x1 w K) : Calls Try.prog 12 #[x0, x1] w fun e w' => ∃ v, e = .returned v ∧ K v w' := by
  rw [F12_step] at h
  exact calls_of (c := F12_code) mixed Try.func12 rfl (nlt rfl) (vc_sound mixed (orcCons (π := [0, 1, 0, 1, 1]) F12_1_ok (orcNil F12_code)) F12_code [] rfl F12_code_ok _ _ _ (rsh_out h))

/-! ropewalk/sched.Check -/
noncomputable def F13_code : Code := Try.f13.body.getD .skip
theorem F13_code_ok : okC Try.prog Try.f13.ntmps F13_code = true := by kernel_rfl
def F13_1C (K2 : Value → Value → Value → World → Prop) (Kr : Value → World → Prop) : Post := fun o t w => match o with | .normal => False | .exit i => (match Nat.beq i 2 with | true => K2 (t 13) (t 14) (t 15) w | false => False) | .ret => Kr (t 2) w
def F13_1 (K2 : Value → Value → Value → World → Prop) (Kr : Value → World → Prop) (x4 : Value) (x13 : Value) (x14 : Value) (x15 : Value) (w : World) : Prop :=
  rdA x4 fun a1 => rdC x13 fun l2a l2n l2c => rdI .i64 x14 fun n3 => rdI .i64 x15 fun n4 => ldI .i64 (a1.add 1) w fun n5 => br (decide ((n5 : Int) < 0)) (Kr (.int .i64 1) w) (ldI .i64 (a1.add 1) w fun n6 => br (decide ((n6 : Int) > 1073741824)) (Kr (.int .i64 1) w) (ldI .i64 (a1.add 2) w fun n7 => br (decide ((n7 : Int) < 0)) (Kr (.int .i64 1) w) (ldI .i64 (a1.add 2) w fun n8 => br (decide ((n8 : Int) > 1048576)) (Kr (.int .i64 1) w) (K2 (.slice l2a l2n l2c) (.int .i64 n3) (.int .i64 n4) w))))
def F13_1O (Q : Post) (t : Tm) (w : World) : Prop := F13_1 (fun y13 y14 y15 w => ∀ g, rsh [(13, (.one .slc)), (14, (.one (.int .i64))), (15, (.one (.int .i64)))] (upds g [(13, y13), (14, y14), (15, y15)]) fun t => Q (.exit 2) t w) (fun y2 w => ∀ g, rsh [(2, (.one (.int .i64)))] (upds g [(2, y2)]) fun t => Q .ret t w) (t 4) (t 13) (t 14) (t 15) w
theorem F13_1_step (K2 : Value → Value → Value → World → Prop) (Kr : Value → World → Prop) (t : Tm) (w : World) : (F13_1 K2 Kr (t 4) (t 13) (t 14) (t 15) w) = rsh [(4, (.one .adr)), (13, (.one .slc)), (14, (.one (.int .i64))), (15, (.one (.int .i64)))] t (fun t => vc Try.prog (orcOf []) [1, 0, 0, 0, 1, 1, 0, 0, 1, 1, 0, 0, 1, 0, 1, 1] (getAt F13_code [1, 0, 0, 0, 1, 1, 0, 0, 1, 1, 0, 0, 1, 0, 1, 1]) (F13_1C K2 Kr) t w) := by kernel_rfl
theorem F13_1_ok : ∀ Q t w, F13_1O Q t w → W Try.prog Try.f13.ntmps (getAt F13_code [1, 0, 0, 0, 1, 1, 0, 0, 1, 1, 0, 0, 1, 0, 1, 1]) Q t w := by
  intro Q t w h
  unfold F13_1O at h
  rw [F13_1_step] at h
  refine (vc_sound mixed (orcNil F13_code) _ _ rfl (okC_at F13_code_ok [1, 0, 0, 0, 1, 1, 0, 0, 1, 1, 0, 0, 1, 0, 1, 1]) _ _ _ (rsh_out h)).mono ?_
  intro o t w q
  cases o with
  | normal => exact q.elim
  | exit i =>
      unfold F13_1C at q
      simp only at q
      split at q
      · rename_i hi
        rw [nbeq] at hi
        subst hi
        exact out_ok [13, 14, 15] q
      · exact q.elim
  | ret => exact out_ok [2] q
def F13_2C (K0 : World → Prop) (Kr : Value → World → Prop) : Post := fun o t w => match o with | .normal => False | .exit i => (match Nat.beq i 0 with | true => K0  w | false => False) | .ret => Kr (t 2) w
def F13_2B (R : Value → Value → Value → World → Prop) (K0 : World → Prop) (Kr : Value → World → Prop) (x13 : Value) (x14 : Value) (x15 : Value) (w : World) : Prop :=
  rdC x13 fun l1a l1n l1c => rdI .i64 x14 fun n2 => rdI .i64 x15 fun n3 => br (decide ((n3 : Int) < n2)) (ixS 4 l1a l1n n3 fun a4 => ldI .i64 (a4.add 0) w fun n5 => ldI .i64 (a4.add 1) w fun n6 => ldI .i64 (a4.add 2) w fun n7 => ldB (a4.add 3) w fun b8 => alc (.cells #[(.int .i64 0), (.int .i64 0), (.int .i64 0), (.bool false)] 42) w fun b9 w10 => stc ((Addr.mk b9 0 none).add 0) (.int .i64 n5) w10 fun w11 => stc ((Addr.mk b9 0 none).add 1) (.int .i64 n6) w11 fun w12 => stc ((Addr.mk b9 0 none).add 2) (.int .i64 n7) w12 fun w13 => stc ((Addr.mk b9 0 none).add 3) (.bool b8) w13 fun w14 => ldI .i64 ((Addr.mk b9 0 none).add 0) w14 fun n15 => br (n15 == 1) (F13_1 (fun y13_15 y14_15 y15_15 w17 => ∀ _g18 : Tm, rdC y13_15 fun l19a l19n l19c => rdI .i64 y14_15 fun n20 => rdI .i64 y15_15 fun n21 => R (.slice l19a l19n l19c) (.int .i64 n20) (.int .i64 (IntKind.wrap .i64 (n21 + 1))) w17) (fun y2_21 w23 => ∀ _g24 : Tm, rdI .i64 y2_21 fun n25 => Kr (.int .i64 n25) w23) (.pointer (some (Addr.mk b9 0 none))) (.slice l1a l1n l1c) (.int .i64 n2) (.int .i64 n3) w14) (br (n15 == 2) (F13_1 (fun y13_25 y14_25 y15_25 w27 => ∀ _g28 : Tm, rdC y13_25 fun l29a l29n l29c => rdI .i64 y14_25 fun n30 => rdI .i64 y15_25 fun n31 => R (.slice l29a l29n l29c) (.int .i64 n30) (.int .i64 (IntKind.wrap .i64 (n31 + 1))) w27) (fun y2_31 w33 => ∀ _g34 : Tm, rdI .i64 y2_31 fun n35 => Kr (.int .i64 n35) w33) (.pointer (some (Addr.mk b9 0 none))) (.slice l1a l1n l1c) (.int .i64 n2) (.int .i64 n3) w14) (br (n15 == 3) (F13_1 (fun y13_35 y14_35 y15_35 w37 => ∀ _g38 : Tm, rdC y13_35 fun l39a l39n l39c => rdI .i64 y14_35 fun n40 => rdI .i64 y15_35 fun n41 => R (.slice l39a l39n l39c) (.int .i64 n40) (.int .i64 (IntKind.wrap .i64 (n41 + 1))) w37) (fun y2_41 w43 => ∀ _g44 : Tm, rdI .i64 y2_41 fun n45 => Kr (.int .i64 n45) w43) (.pointer (some (Addr.mk b9 0 none))) (.slice l1a l1n l1c) (.int .i64 n2) (.int .i64 n3) w14) (Kr (.int .i64 1) w14)))) (K0 w)
def F13_2 (K0 : World → Prop) (Kr : Value → World → Prop) : Nat → Value → Value → Value → World → Prop
  | 0 => fun _ _ _ _ => False
  | n + 1 => F13_2B (F13_2 K0 Kr n) K0 Kr
def F13_2O (Q : Post) (t : Tm) (w : World) : Prop := ∃ n, F13_2 (fun w => ∀ g, rsh [] (upds g []) fun t => Q (.exit 0) t w) (fun y2 w => ∀ g, rsh [(2, (.one (.int .i64)))] (upds g [(2, y2)]) fun t => Q .ret t w) n (t 13) (t 14) (t 15) w
theorem F13_2_step (K0 : World → Prop) (Kr : Value → World → Prop) (n : Nat) (t : Tm) (w : World) : (F13_2 K0 Kr (n + 1) (t 13) (t 14) (t 15) w) = rsh [(13, (.one .slc)), (14, (.one (.int .i64))), (15, (.one (.int .i64)))] t (fun t => vc Try.prog (orcOf [([1, 0, 0, 0, 1, 1, 0, 0, 1, 1, 0, 0, 1, 0, 1, 1], F13_1O)]) [0, 0, 1, 0, 1, 1] (getAt F13_code [0, 0, 1, 0, 1, 1]) (fun o t w => match o with | .normal => F13_2 K0 Kr n (t 13) (t 14) (t 15) w | .exit i => F13_2C K0 Kr (.exit i) t w | .ret => F13_2C K0 Kr .ret t w) t w) := by kernel_rfl
theorem F13_2_ok : ∀ Q t w, F13_2O Q t w → W Try.prog Try.f13.ntmps (getAt F13_code [0, 1, 0, 1, 1]) Q t w := by
  intro Q t w ⟨n, h⟩
  refine (W_loop (P := Try.prog) (b := getAt F13_code [0, 0, 1, 0, 1, 1]) (Q := F13_2C (fun w => ∀ g, rsh [] (upds g []) fun t => Q (.exit 0) t w) (fun y2 w => ∀ g, rsh [(2, (.one (.int .i64)))] (upds g [(2, y2)]) fun t => Q .ret t w)) (G := fun n t w => F13_2 (fun w => ∀ g, rsh [] (upds g []) fun t => Q (.exit 0) t w) (fun y2 w => ∀ g, rsh [(2, (.one (.int .i64)))] (upds g [(2, y2)]) fun t => Q .ret t w) n (t 13) (t 14) (t 15) w) (fun _ _ h => h) (fun n t w h => ?_) n t w h).mono ?_
  · rw [F13_2_step] at h
    exact vc_sound mixed (orcCons (π := [1, 0, 0, 0, 1, 1, 0, 0, 1, 1, 0, 0, 1, 0, 1, 1]) F13_1_ok (orcNil F13_code)) _ _ rfl (okC_at F13_code_ok [0, 0, 1, 0, 1, 1]) _ _ _ (rsh_out h)
  · intro o t w q
    cases o with
    | normal => exact q.elim
    | exit i =>
      unfold F13_2C at q
      simp only at q
      split at q
      · rename_i hi
        rw [nbeq] at hi
        subst hi
        exact out_ok [] q
      · exact q.elim
    | ret => exact out_ok [2] q
def F13_3C (Kr : Value → World → Prop) : Post := fun o t w => match o with | .normal => False | .exit i => (False) | .ret => Kr (t 2) w
def F13_3 (Kr : Value → World → Prop) (x0 : Value) (w : World) : Prop :=
  rdC x0 fun l1a l1n l1c => ∃ k9 : Nat, F13_2 (fun w3 => ∀ _g4 : Tm, Kr (.int .i64 0) w3) (fun y2_4 w6 => ∀ _g7 : Tm, rdI .i64 y2_4 fun n8 => Kr (.int .i64 n8) w6) k9 (.slice l1a l1n l1c) (.int .i64 (l1n : Int)) (.int .i64 0) w
def F13_3O (Q : Post) (t : Tm) (w : World) : Prop := F13_3 (fun y2 w => ∀ g, rsh [(2, (.one (.int .i64)))] (upds g [(2, y2)]) fun t => Q .ret t w) (t 0) w
theorem F13_3_step (Kr : Value → World → Prop) (t : Tm) (w : World) : (F13_3 Kr (t 0) w) = rsh [(0, (.one .slc))] t (fun t => vc Try.prog (orcOf [([1, 0, 0, 0, 1, 1, 0, 0, 1, 1, 0, 0, 1, 0, 1, 1], F13_1O), ([0, 1, 0, 1, 1], F13_2O)]) [1, 1] (getAt F13_code [1, 1]) (F13_3C Kr) t w) := by kernel_rfl
theorem F13_3_ok : ∀ Q t w, F13_3O Q t w → W Try.prog Try.f13.ntmps (getAt F13_code [1, 1]) Q t w := by
  intro Q t w h
  unfold F13_3O at h
  rw [F13_3_step] at h
  refine (vc_sound mixed (orcCons (π := [1, 0, 0, 0, 1, 1, 0, 0, 1, 1, 0, 0, 1, 0, 1, 1]) F13_1_ok (orcCons (π := [0, 1, 0, 1, 1]) F13_2_ok (orcNil F13_code))) _ _ rfl (okC_at F13_code_ok [1, 1]) _ _ _ (rsh_out h)).mono ?_
  intro o t w q
  cases o with
  | normal => exact q.elim
  | exit i => exact q.elim
  | ret => exact out_ok [2] q
def F13 (x0 : Value) (w : World) (K : Value → World → Prop) : Prop :=
  rdC x0 fun l1a l1n l1c => br (decide (((l1n : Int) : Int) < 1)) (K (.int .i64 3) w) (br (decide (((l1n : Int) : Int) > 8)) (K (.int .i64 3) w) (F13_3 (fun y2_1 w3 => ∀ _g4 : Tm, rdI .i64 y2_1 fun n5 => K (.int .i64 n5) w3) (.slice l1a l1n l1c) w))
theorem F13_step (x0 : Value) (w : World) (K : Value → World → Prop) : (F13 x0 w K) = rsh [(0, (.one .slc))] (args0 #[x0]) (fun t => vc Try.prog (orcOf [([1, 0, 0, 0, 1, 1, 0, 0, 1, 1, 0, 0, 1, 0, 1, 1], F13_1O), ([0, 1, 0, 1, 1], F13_2O), ([1, 1], F13_3O)]) [] F13_code (retQ Try.prog Try.f13 K) t w) := by kernel_rfl
theorem F13_ok {x0 : Value} {w : World} {K : Value → World → Prop} (h : F13 x0 w K) : Calls Try.prog 13 #[x0] w fun e w' => ∃ v, e = .returned v ∧ K v w' := by
  rw [F13_step] at h
  exact calls_of (c := F13_code) mixed Try.func13 rfl (nlt rfl) (vc_sound mixed (orcCons (π := [1, 0, 0, 0, 1, 1, 0, 0, 1, 1, 0, 0, 1, 0, 1, 1]) F13_1_ok (orcCons (π := [0, 1, 0, 1, 1]) F13_2_ok (orcCons (π := [1, 1]) F13_3_ok (orcNil F13_code)))) F13_code [] rfl F13_code_ok _ _ _ (rsh_out h))

/-! ropewalk/ropewalkref18.Check -/
noncomputable def F14_code : Code := Try.f14.body.getD .skip
theorem F14_code_ok : okC Try.prog Try.f14.ntmps F14_code = true := by kernel_rfl
def F14_1C (K0 : World → Prop) (Kr : Value → World → Prop) : Post := fun o t w => match o with | .normal => False | .exit i => (match Nat.beq i 0 with | true => K0  w | false => False) | .ret => Kr (t 2) w
def F14_1B (R : Value → Value → World → Prop) (K0 : World → Prop) (Kr : Value → World → Prop) (x0 : Value) (x3 : Value) (w : World) : Prop :=
  rdC x0 fun l1a l1n l1c => rdI .i64 x3 fun n2 => br (decide ((n2 : Int) < (l1n : Int))) (ixS 4 l1a l1n n2 fun a3 => ldI .i64 (a3.add 0) w fun n4 => ldI .i64 (a3.add 1) w fun n5 => ldI .i64 (a3.add 2) w fun n6 => ldB (a3.add 3) w fun b7 => Calls Try.prog 28 #[(.agg #[(.int .i64 n4), (.int .i64 n5), (.int .i64 n6), (.bool b7)])] w fun e10 w9 => ∃ b8, e10 = .returned (.bool b8) ∧ (br (!b8) (Kr (.int .i64 1) w9) (R (.slice l1a l1n l1c) (.int .i64 (IntKind.wrap .i64 (n2 + 1))) w9))) (K0 w)
def F14_1 (K0 : World → Prop) (Kr : Value → World → Prop) : Nat → Value → Value → World → Prop
  | 0 => fun _ _ _ => False
  | n + 1 => F14_1B (F14_1 K0 Kr n) K0 Kr
def F14_1O (Q : Post) (t : Tm) (w : World) : Prop := ∃ n, F14_1 (fun w => ∀ g, rsh [] (upds g []) fun t => Q (.exit 0) t w) (fun y2 w => ∀ g, rsh [(2, (.one (.int .i64)))] (upds g [(2, y2)]) fun t => Q .ret t w) n (t 0) (t 3) w
theorem F14_1_step (K0 : World → Prop) (Kr : Value → World → Prop) (n : Nat) (t : Tm) (w : World) : (F14_1 K0 Kr (n + 1) (t 0) (t 3) w) = rsh [(0, (.one .slc)), (3, (.one (.int .i64)))] t (fun t => vc Try.prog (orcOf []) [0, 0, 1, 0, 1, 1] (getAt F14_code [0, 0, 1, 0, 1, 1]) (fun o t w => match o with | .normal => F14_1 K0 Kr n (t 0) (t 3) w | .exit i => F14_1C K0 Kr (.exit i) t w | .ret => F14_1C K0 Kr .ret t w) t w) := by kernel_rfl
theorem F14_1_ok : ∀ Q t w, F14_1O Q t w → W Try.prog Try.f14.ntmps (getAt F14_code [0, 1, 0, 1, 1]) Q t w := by
  intro Q t w ⟨n, h⟩
  refine (W_loop (P := Try.prog) (b := getAt F14_code [0, 0, 1, 0, 1, 1]) (Q := F14_1C (fun w => ∀ g, rsh [] (upds g []) fun t => Q (.exit 0) t w) (fun y2 w => ∀ g, rsh [(2, (.one (.int .i64)))] (upds g [(2, y2)]) fun t => Q .ret t w)) (G := fun n t w => F14_1 (fun w => ∀ g, rsh [] (upds g []) fun t => Q (.exit 0) t w) (fun y2 w => ∀ g, rsh [(2, (.one (.int .i64)))] (upds g [(2, y2)]) fun t => Q .ret t w) n (t 0) (t 3) w) (fun _ _ h => h) (fun n t w h => ?_) n t w h).mono ?_
  · rw [F14_1_step] at h
    exact vc_sound mixed (orcNil F14_code) _ _ rfl (okC_at F14_code_ok [0, 0, 1, 0, 1, 1]) _ _ _ (rsh_out h)
  · intro o t w q
    cases o with
    | normal => exact q.elim
    | exit i =>
      unfold F14_1C at q
      simp only at q
      split at q
      · rename_i hi
        rw [nbeq] at hi
        subst hi
        exact out_ok [] q
      · exact q.elim
    | ret => exact out_ok [2] q
def F14_2C (Kr : Value → World → Prop) : Post := fun o t w => match o with | .normal => False | .exit i => (False) | .ret => Kr (t 2) w
def F14_2 (Kr : Value → World → Prop) (x0 : Value) (w : World) : Prop :=
  rdC x0 fun l1a l1n l1c => ∃ k9 : Nat, F14_1 (fun w3 => ∀ _g4 : Tm, Kr (.int .i64 0) w3) (fun y2_4 w6 => ∀ _g7 : Tm, rdI .i64 y2_4 fun n8 => Kr (.int .i64 n8) w6) k9 (.slice l1a l1n l1c) (.int .i64 0) w
def F14_2O (Q : Post) (t : Tm) (w : World) : Prop := F14_2 (fun y2 w => ∀ g, rsh [(2, (.one (.int .i64)))] (upds g [(2, y2)]) fun t => Q .ret t w) (t 0) w
theorem F14_2_step (Kr : Value → World → Prop) (t : Tm) (w : World) : (F14_2 Kr (t 0) w) = rsh [(0, (.one .slc))] t (fun t => vc Try.prog (orcOf [([0, 1, 0, 1, 1], F14_1O)]) [1, 1] (getAt F14_code [1, 1]) (F14_2C Kr) t w) := by kernel_rfl
theorem F14_2_ok : ∀ Q t w, F14_2O Q t w → W Try.prog Try.f14.ntmps (getAt F14_code [1, 1]) Q t w := by
  intro Q t w h
  unfold F14_2O at h
  rw [F14_2_step] at h
  refine (vc_sound mixed (orcCons (π := [0, 1, 0, 1, 1]) F14_1_ok (orcNil F14_code)) _ _ rfl (okC_at F14_code_ok [1, 1]) _ _ _ (rsh_out h)).mono ?_
  intro o t w q
  cases o with
  | normal => exact q.elim
  | exit i => exact q.elim
  | ret => exact out_ok [2] q
def F14 (x0 : Value) (w : World) (K : Value → World → Prop) : Prop :=
  rdC x0 fun l1a l1n l1c => br ((l1n : Int) == 0) (K (.int .i64 3) w) (br (decide (((l1n : Int) : Int) > 8)) (K (.int .i64 3) w) (F14_2 (fun y2_1 w3 => ∀ _g4 : Tm, rdI .i64 y2_1 fun n5 => K (.int .i64 n5) w3) (.slice l1a l1n l1c) w))
theorem F14_step (x0 : Value) (w : World) (K : Value → World → Prop) : (F14 x0 w K) = rsh [(0, (.one .slc))] (args0 #[x0]) (fun t => vc Try.prog (orcOf [([0, 1, 0, 1, 1], F14_1O), ([1, 1], F14_2O)]) [] F14_code (retQ Try.prog Try.f14 K) t w) := by kernel_rfl
theorem F14_ok {x0 : Value} {w : World} {K : Value → World → Prop} (h : F14 x0 w K) : Calls Try.prog 14 #[x0] w fun e w' => ∃ v, e = .returned v ∧ K v w' := by
  rw [F14_step] at h
  exact calls_of (c := F14_code) mixed Try.func14 rfl (nlt rfl) (vc_sound mixed (orcCons (π := [0, 1, 0, 1, 1]) F14_1_ok (orcCons (π := [1, 1]) F14_2_ok (orcNil F14_code))) F14_code [] rfl F14_code_ok _ _ _ (rsh_out h))

/-! ropewalk/ropewalklaw18.awake -/
noncomputable def F15_code : Code := Try.f15.body.getD .skip
theorem F15_code_ok : okC Try.prog Try.f15.ntmps F15_code = true := by kernel_rfl
def F15 (w : World) (K : Value → World → Prop) : Prop :=
  alc (.cells #[(.int .i64 1), (.int .i64 10), (.int .i64 0), (.bool true), (.int .i64 1), (.int .i64 0), (.int .i64 0), (.bool true), (.int .i64 1), (.int .i64 20), (.int .i64 0), (.bool true)] 42) w fun b1 w2 => Calls Try.prog 10 #[(.int .i64 0), (.int .i64 0), (.slice (some (Addr.mk b1 0 none)) 3 3)] w2 fun e7 w6 => ∃ n3 b4 n5, e7 = .returned (.tuple #[(.int .i64 n3), (.bool b4), (.int .i64 n5)]) ∧ (Calls Try.prog 10 #[(.int .i64 0), (.int .i64 2), (.slice (some (Addr.mk b1 0 none)) 3 3)] w6 fun e12 w11 => ∃ n8 b9 n10, e12 = .returned (.tuple #[(.int .i64 n8), (.bool b9), (.int .i64 n10)]) ∧ (Calls Try.prog 16 #[(.int .i64 2), (.slice (some (Addr.mk b1 0 none)) 3 3)] w11 fun e16 w15 => ∃ n13 n14, e16 = .returned (.tuple #[(.int .i64 n13), (.int .i64 n14)]) ∧ (br (n5 == 0) (br (n10 == 0) (br (n14 == 0) (br b4 (br b9 (br (n3 == 2) (br (n8 == 0) (K (.bool (n13 == 0)) w15) (K (.bool false) w15)) (K (.bool false) w15)) (K (.bool false) w15)) (K (.bool false) w15)) (K (.bool false) w15)) (K (.bool false) w15)) (K (.bool false) w15))))
theorem F15_step (w : World) (K : Value → World → Prop) : (F15  w K) = rsh [] (args0 #[]) (fun t => vc Try.prog (orcOf []) [] F15_code (retQ Try.prog Try.f15 K) t w) := by kernel_rfl
theorem F15_ok {w : World} {K : Value → World → Prop} (h : F15 w K) : Calls Try.prog 15 #[] w fun e w' => ∃ v, e = .returned v ∧ K v w' := by
  rw [F15_step] at h
  exact calls_of (c := F15_code) mixed Try.func15 rfl (nlt rfl) (vc_sound mixed (orcNil F15_code) F15_code [] rfl F15_code_ok _ _ _ (rsh_out h))

/-! ropewalk/sched.Again -/
noncomputable def F16_code : Code := Try.f16.body.getD .skip
theorem F16_code_ok : okC Try.prog Try.f16.ntmps F16_code = true := by kernel_rfl
def F16_1C (K2 : Value → Value → Value → Value → Value → Value → Value → World → Prop) : Post := fun o t w => match o with | .normal => False | .exit i => (match Nat.beq i 2 with | true => K2 (t 0) (t 1) (t 8) (t 9) (t 25) (t 26) (t 27) w | false => False) | .ret => False
def F16_1B (R : Value → Value → Value → Value → Value → Value → Value → Value → Value → Value → World → Prop) (K2 : Value → Value → Value → Value → Value → Value → Value → World → Prop) (x0 : Value) (x1 : Value) (x8 : Value) (x9 : Value) (x25 : Value) (x26 : Value) (x27 : Value) (x33 : Value) (x34 : Value) (x35 : Value) (w : World) : Prop :=
  rdI .i64 x0 fun n1 => rdC x1 fun l2a l2n l2c => rdI .i64 x8 fun n3 => rdI .i64 x9 fun n4 => rdC x25 fun l5a l5n l5c => rdI .i64 x26 fun n6 => rdI .i64 x27 fun n7 => rdC x33 fun l8a l8n l8c => rdI .i64 x34 fun n9 => rdI .i64 x35 fun n10 => br (decide ((n10 : Int) < n9)) (ixS 1 l8a l8n n10 fun a11 => ldI .i64 a11 w fun n12 => drw w fun w13 => br (n12 != n1) (br (decide ((n4 : Int) < 0)) (R (.int .i64 n1) (.slice l2a l2n l2c) (.int .i64 n3) (.int .i64 n12) (.slice l5a l5n l5c) (.int .i64 n6) (.int .i64 n7) (.slice l8a l8n l8c) (.int .i64 n9) (.int .i64 (IntKind.wrap .i64 (n10 + 1))) w13) (ixS 4 l2a l2n n12 fun a14 => ldI .i64 (a14.add 1) w13 fun n15 => ixS 4 l2a l2n n4 fun a16 => ldI .i64 (a16.add 1) w13 fun n17 => br (decide ((n15 : Int) > n17)) (R (.int .i64 n1) (.slice l2a l2n l2c) (.int .i64 n3) (.int .i64 n12) (.slice l5a l5n l5c) (.int .i64 n6) (.int .i64 n7) (.slice l8a l8n l8c) (.int .i64 n9) (.int .i64 (IntKind.wrap .i64 (n10 + 1))) w13) (R (.int .i64 n1) (.slice l2a l2n l2c) (.int .i64 n3) (.int .i64 n4) (.slice l5a l5n l5c) (.int .i64 n6) (.int .i64 n7) (.slice l8a l8n l8c) (.int .i64 n9) (.int .i64 (IntKind.wrap .i64 (n10 + 1))) w13))) (R (.int .i64 n1) (.slice l2a l2n l2c) (.int .i64 n3) (.int .i64 n4) (.slice l5a l5n l5c) (.int .i64 n6) (.int .i64 n7) (.slice l8a l8n l8c) (.int .i64 n9) (.int .i64 (IntKind.wrap .i64 (n10 + 1))) w13)) (K2 (.int .i64 n1) (.slice l2a l2n l2c) (.int .i64 n3) (.int .i64 n4) (.slice l5a l5n l5c) (.int .i64 n6) (.int .i64 n7) w)
def F16_1 (K2 : Value → Value → Value → Value → Value → Value → Value → World → Prop) : Nat → Value → Value → Value → Value → Value → Value → Value → Value → Value → Value → World → Prop
  | 0 => fun _ _ _ _ _ _ _ _ _ _ _ => False
  | n + 1 => F16_1B (F16_1 K2 n) K2
def F16_1O (Q : Post) (t : Tm) (w : World) : Prop := ∃ n, F16_1 (fun y0 y1 y8 y9 y25 y26 y27 w => ∀ g, rsh [(0, (.one (.int .i64))), (1, (.one .slc)), (8, (.one (.int .i64))), (9, (.one (.int .i64))), (25, (.one .slc)), (26, (.one (.int .i64))), (27, (.one (.int .i64)))] (upds g [(0, y0), (1, y1), (8, y8), (9, y9), (25, y25), (26, y26), (27, y27)]) fun t => Q (.exit 2) t w) n (t 0) (t 1) (t 8) (t 9) (t 25) (t 26) (t 27) (t 33) (t 34) (t 35) w
theorem F16_1_step (K2 : Value → Value → Value → Value → Value → Value → Value → World → Prop) (n : Nat) (t : Tm) (w : World) : (F16_1 K2 (n + 1) (t 0) (t 1) (t 8) (t 9) (t 25) (t 26) (t 27) (t 33) (t 34) (t 35) w) = rsh [(0, (.one (.int .i64))), (1, (.one .slc)), (8, (.one (.int .i64))), (9, (.one (.int .i64))), (25, (.one .slc)), (26, (.one (.int .i64))), (27, (.one (.int .i64))), (33, (.one .slc)), (34, (.one (.int .i64))), (35, (.one (.int .i64)))] t (fun t => vc Try.prog (orcOf []) [0, 0, 1, 0, 1, 1, 0, 0, 1, 1, 0, 0, 1, 0, 1, 1, 1] (getAt F16_code [0, 0, 1, 0, 1, 1, 0, 0, 1, 1, 0, 0, 1, 0, 1, 1, 1]) (fun o t w => match o with | .normal => F16_1 K2 n (t 0) (t 1) (t 8) (t 9) (t 25) (t 26) (t 27) (t 33) (t 34) (t 35) w | .exit i => F16_1C K2 (.exit i) t w | .ret => F16_1C K2 .ret t w) t w) := by kernel_rfl
theorem F16_1_ok : ∀ Q t w, F16_1O Q t w → W Try.prog Try.f16.ntmps (getAt F16_code [0, 1, 0, 1, 1, 0, 0, 1, 1, 0, 0, 1, 0, 1, 1, 1]) Q t w := by
  intro Q t w ⟨n, h⟩
  refine (W_loop (P := Try.prog) (b := getAt F16_code [0, 0, 1, 0, 1, 1, 0, 0, 1, 1, 0, 0, 1, 0, 1, 1, 1]) (Q := F16_1C (fun y0 y1 y8 y9 y25 y26 y27 w => ∀ g, rsh [(0, (.one (.int .i64))), (1, (.one .slc)), (8, (.one (.int .i64))), (9, (.one (.int .i64))), (25, (.one .slc)), (26, (.one (.int .i64))), (27, (.one (.int .i64)))] (upds g [(0, y0), (1, y1), (8, y8), (9, y9), (25, y25), (26, y26), (27, y27)]) fun t => Q (.exit 2) t w)) (G := fun n t w => F16_1 (fun y0 y1 y8 y9 y25 y26 y27 w => ∀ g, rsh [(0, (.one (.int .i64))), (1, (.one .slc)), (8, (.one (.int .i64))), (9, (.one (.int .i64))), (25, (.one .slc)), (26, (.one (.int .i64))), (27, (.one (.int .i64)))] (upds g [(0, y0), (1, y1), (8, y8), (9, y9), (25, y25), (26, y26), (27, y27)]) fun t => Q (.exit 2) t w) n (t 0) (t 1) (t 8) (t 9) (t 25) (t 26) (t 27) (t 33) (t 34) (t 35) w) (fun _ _ h => h) (fun n t w h => ?_) n t w h).mono ?_
  · rw [F16_1_step] at h
    exact vc_sound mixed (orcNil F16_code) _ _ rfl (okC_at F16_code_ok [0, 0, 1, 0, 1, 1, 0, 0, 1, 1, 0, 0, 1, 0, 1, 1, 1]) _ _ _ (rsh_out h)
  · intro o t w q
    cases o with
    | normal => exact q.elim
    | exit i =>
      unfold F16_1C at q
      simp only at q
      split at q
      · rename_i hi
        rw [nbeq] at hi
        subst hi
        exact out_ok [0, 1, 8, 9, 25, 26, 27] q
      · exact q.elim
    | ret => exact q.elim
def F16_2C (K0 : Value → World → Prop) (Kr : Value → Value → World → Prop) : Post := fun o t w => match o with | .normal => False | .exit i => (match Nat.beq i 0 with | true => K0 (t 0) w | false => False) | .ret => Kr (t 4) (t 5) w
def F16_2B (R : Value → Value → Value → Value → Value → World → Prop) (K0 : Value → World → Prop) (Kr : Value → Value → World → Prop) (x0 : Value) (x1 : Value) (x25 : Value) (x26 : Value) (x27 : Value) (w : World) : Prop :=
  rdI .i64 x0 fun n1 => rdC x1 fun l2a l2n l2c => rdC x25 fun l3a l3n l3c => rdI .i64 x26 fun n4 => rdI .i64 x27 fun n5 => br (decide ((n5 : Int) < n4)) (ixS 1 l3a l3n n5 fun a6 => ldI .i64 a6 w fun n7 => Calls Try.prog 29 #[(.slice l2a l2n l2c), (.int .i64 n7)] w fun e10 w9 => ∃ l8a l8n l8c, e10 = .returned (.slice l8a l8n l8c) ∧ (∃ k23 : Nat, F16_1 (fun y0_10 y1_10 y8_10 y9_10 y25_10 y26_10 y27_10 w12 => ∀ _g13 : Tm, rdI .i64 y0_10 fun n14 => rdC y1_10 fun l15a l15n l15c => rdI .i64 y8_10 fun n16 => rdI .i64 y9_10 fun n17 => rdC y25_10 fun l18a l18n l18c => rdI .i64 y26_10 fun n19 => rdI .i64 y27_10 fun n20 => br (decide ((n17 : Int) ≥ 0)) (Kr (.int .i64 n17) (.int .i64 0) w12) (ixS 4 l15a l15n n14 fun a21 => ldI .i64 (a21.add 0) w12 fun n22 => br (n22 == n16) (Kr (.int .i64 n14) (.int .i64 0) w12) (R (.int .i64 n14) (.slice l15a l15n l15c) (.slice l18a l18n l18c) (.int .i64 n19) (.int .i64 (IntKind.wrap .i64 (n20 + 1))) w12))) k23 (.int .i64 n1) (.slice l2a l2n l2c) (.int .i64 n7) (.int .i64 (-1)) (.slice l3a l3n l3c) (.int .i64 n4) (.int .i64 n5) (.slice l8a l8n l8c) (.int .i64 (l8n : Int)) (.int .i64 0) w9)) (K0 (.int .i64 n1) w)
def F16_2 (K0 : Value → World → Prop) (Kr : Value → Value → World → Prop) : Nat → Value → Value → Value → Value → Value → World → Prop
  | 0 => fun _ _ _ _ _ _ => False
  | n + 1 => F16_2B (F16_2 K0 Kr n) K0 Kr
def F16_2O (Q : Post) (t : Tm) (w : World) : Prop := ∃ n, F16_2 (fun y0 w => ∀ g, rsh [(0, (.one (.int .i64)))] (upds g [(0, y0)]) fun t => Q (.exit 0) t w) (fun y4 y5 w => ∀ g, rsh [(4, (.one (.int .i64))), (5, (.one (.int .i64)))] (upds g [(4, y4), (5, y5)]) fun t => Q .ret t w) n (t 0) (t 1) (t 25) (t 26) (t 27) w
theorem F16_2_step (K0 : Value → World → Prop) (Kr : Value → Value → World → Prop) (n : Nat) (t : Tm) (w : World) : (F16_2 K0 Kr (n + 1) (t 0) (t 1) (t 25) (t 26) (t 27) w) = rsh [(0, (.one (.int .i64))), (1, (.one .slc)), (25, (.one .slc)), (26, (.one (.int .i64))), (27, (.one (.int .i64)))] t (fun t => vc Try.prog (orcOf [([0, 1, 0, 1, 1, 0, 0, 1, 1, 0, 0, 1, 0, 1, 1, 1], F16_1O)]) [0, 0, 1, 0, 1, 1, 1] (getAt F16_code [0, 0, 1, 0, 1, 1, 1]) (fun o t w => match o with | .normal => F16_2 K0 Kr n (t 0) (t 1) (t 25) (t 26) (t 27) w | .exit i => F16_2C K0 Kr (.exit i) t w | .ret => F16_2C K0 Kr .ret t w) t w) := by kernel_rfl
theorem F16_2_ok : ∀ Q t w, F16_2O Q t w → W Try.prog Try.f16.ntmps (getAt F16_code [0, 1, 0, 1, 1, 1]) Q t w := by
  intro Q t w ⟨n, h⟩
  refine (W_loop (P := Try.prog) (b := getAt F16_code [0, 0, 1, 0, 1, 1, 1]) (Q := F16_2C (fun y0 w => ∀ g, rsh [(0, (.one (.int .i64)))] (upds g [(0, y0)]) fun t => Q (.exit 0) t w) (fun y4 y5 w => ∀ g, rsh [(4, (.one (.int .i64))), (5, (.one (.int .i64)))] (upds g [(4, y4), (5, y5)]) fun t => Q .ret t w)) (G := fun n t w => F16_2 (fun y0 w => ∀ g, rsh [(0, (.one (.int .i64)))] (upds g [(0, y0)]) fun t => Q (.exit 0) t w) (fun y4 y5 w => ∀ g, rsh [(4, (.one (.int .i64))), (5, (.one (.int .i64)))] (upds g [(4, y4), (5, y5)]) fun t => Q .ret t w) n (t 0) (t 1) (t 25) (t 26) (t 27) w) (fun _ _ h => h) (fun n t w h => ?_) n t w h).mono ?_
  · rw [F16_2_step] at h
    exact vc_sound mixed (orcCons (π := [0, 1, 0, 1, 1, 0, 0, 1, 1, 0, 0, 1, 0, 1, 1, 1]) F16_1_ok (orcNil F16_code)) _ _ rfl (okC_at F16_code_ok [0, 0, 1, 0, 1, 1, 1]) _ _ _ (rsh_out h)
  · intro o t w q
    cases o with
    | normal => exact q.elim
    | exit i =>
      unfold F16_2C at q
      simp only at q
      split at q
      · rename_i hi
        rw [nbeq] at hi
        subst hi
        exact out_ok [0] q
      · exact q.elim
    | ret => exact out_ok [4, 5] q
def F16_3C (Kr : Value → Value → World → Prop) : Post := fun o t w => match o with | .normal => False | .exit i => (False) | .ret => Kr (t 4) (t 5) w
def F16_3 (Kr : Value → Value → World → Prop) (x0 : Value) (x1 : Value) (w : World) : Prop :=
  rdI .i64 x0 fun n1 => rdC x1 fun l2a l2n l2c => alc (.cells #[(.int .i64 1), (.int .i64 2), (.int .i64 3)] 40) w fun b3 w4 => ∃ k14 : Nat, F16_2 (fun y0_4 w6 => ∀ _g7 : Tm, rdI .i64 y0_4 fun n8 => Kr (.int .i64 n8) (.int .i64 0) w6) (fun y4_8 y5_8 w10 => ∀ _g11 : Tm, rdI .i64 y4_8 fun n12 => rdI .i64 y5_8 fun n13 => Kr (.int .i64 n12) (.int .i64 n13) w10) k14 (.int .i64 n1) (.slice l2a l2n l2c) (.slice (some (Addr.mk b3 0 none)) 3 3) (.int .i64 (3 : Int)) (.int .i64 0) w4
def F16_3O (Q : Post) (t : Tm) (w : World) : Prop := F16_3 (fun y4 y5 w => ∀ g, rsh [(4, (.one (.int .i64))), (5, (.one (.int .i64)))] (upds g [(4, y4), (5, y5)]) fun t => Q .ret t w) (t 0) (t 1) w
theorem F16_3_step (Kr : Value → Value → World → Prop) (t : Tm) (w : World) : (F16_3 Kr (t 0) (t 1) w) = rsh [(0, (.one (.int .i64))), (1, (.one .slc))] t (fun t => vc Try.prog (orcOf [([0, 1, 0, 1, 1, 0, 0, 1, 1, 0, 0, 1, 0, 1, 1, 1], F16_1O), ([0, 1, 0, 1, 1, 1], F16_2O)]) [1, 1, 1] (getAt F16_code [1, 1, 1]) (F16_3C Kr) t w) := by kernel_rfl
theorem F16_3_ok : ∀ Q t w, F16_3O Q t w → W Try.prog Try.f16.ntmps (getAt F16_code [1, 1, 1]) Q t w := by
  intro Q t w h
  unfold F16_3O at h
  rw [F16_3_step] at h
  refine (vc_sound mixed (orcCons (π := [0, 1, 0, 1, 1, 0, 0, 1, 1, 0, 0, 1, 0, 1, 1, 1]) F16_1_ok (orcCons (π := [0, 1, 0, 1, 1, 1]) F16_2_ok (orcNil F16_code))) _ _ rfl (okC_at F16_code_ok [1, 1, 1]) _ _ _ (rsh_out h)).mono ?_
  intro o t w q
  cases o with
  | normal => exact q.elim
  | exit i => exact q.elim
  | ret => exact out_ok [4, 5] q
def F16 (x0 : Value) (x1 : Value) (w : World) (K : Value → World → Prop) : Prop :=
  rdI .i64 x0 fun n1 => rdC x1 fun l2a l2n l2c => Calls Try.prog 13 #[(.slice l2a l2n l2c)] w fun e5 w4 => ∃ n3, e5 = .returned (.int .i64 n3) ∧ (br (n3 != 0) (K (.tuple #[(.int .i64 0), (.int .i64 n3)]) w4) (br (decide ((n1 : Int) < 0)) (K (.tuple #[(.int .i64 0), (.int .i64 5)]) w4) (br (decide ((n1 : Int) ≥ (l2n : Int))) (K (.tuple #[(.int .i64 0), (.int .i64 5)]) w4) (F16_3 (fun y4_5 y5_5 w7 => ∀ _g8 : Tm, rdI .i64 y4_5 fun n9 => rdI .i64 y5_5 fun n10 => K (.tuple #[(.int .i64 n9), (.int .i64 n10)]) w7) (.int .i64 n1) (.slice l2a l2n l2c) w4))))
theorem F16_step (x0 : Value) (x1 : Value) (w : World) (K : Value → World → Prop) : (F16 x0 x1 w K) = rsh [(0, (.one (.int .i64))), (1, (.one .slc))] (args0 #[x0, x1]) (fun t => vc Try.prog (orcOf [([0, 1, 0, 1, 1, 0, 0, 1, 1, 0, 0, 1, 0, 1, 1, 1], F16_1O), ([0, 1, 0, 1, 1, 1], F16_2O), ([1, 1, 1], F16_3O)]) [] F16_code (retQ Try.prog Try.f16 K) t w) := by kernel_rfl
theorem F16_ok {x0 x1 : Value} {w : World} {K : Value → World → Prop} (h : F16 x0 x1 w K) : Calls Try.prog 16 #[x0, x1] w fun e w' => ∃ v, e = .returned v ∧ K v w' := by
  rw [F16_step] at h
  exact calls_of (c := F16_code) mixed Try.func16 rfl (nlt rfl) (vc_sound mixed (orcCons (π := [0, 1, 0, 1, 1, 0, 0, 1, 1, 0, 0, 1, 0, 1, 1, 1]) F16_1_ok (orcCons (π := [0, 1, 0, 1, 1, 1]) F16_2_ok (orcCons (π := [1, 1, 1]) F16_3_ok (orcNil F16_code)))) F16_code [] rfl F16_code_ok _ _ _ (rsh_out h))

/-! ropewalk/ropewalkref18.Again -/
noncomputable def F17_code : Code := Try.f17.body.getD .skip
theorem F17_code_ok : okC Try.prog Try.f17.ntmps F17_code = true := by kernel_rfl
def F17_1C (K0 : Value → World → Prop) (Kr : Value → Value → World → Prop) : Post := fun o t w => match o with | .normal => False | .exit i => (match Nat.beq i 0 with | true => K0 (t 0) w | false => False) | .ret => Kr (t 4) (t 5) w
def F17_1B (R : Value → Value → Value → World → Prop) (K0 : Value → World → Prop) (Kr : Value → Value → World → Prop) (x0 : Value) (x1 : Value) (x7 : Value) (w : World) : Prop :=
  rdI .i64 x0 fun n1 => rdC x1 fun l2a l2n l2c => rdI .i64 x7 fun n3 => br (decide ((n3 : Int) ≤ 3)) (Calls Try.prog 30 #[(.slice l2a l2n l2c), (.int .i64 n3), (.int .i64 n1)] w fun e6 w5 => ∃ n4, e6 = .returned (.int .i64 n4) ∧ (br (decide ((n4 : Int) ≥ 0)) (Kr (.int .i64 n4) (.int .i64 0) w5) (ixS 4 l2a l2n n1 fun a7 => ldI .i64 (a7.add 0) w5 fun n8 => br (n8 == n3) (Kr (.int .i64 n1) (.int .i64 0) w5) (R (.int .i64 n1) (.slice l2a l2n l2c) (.int .i64 (IntKind.wrap .i64 (n3 + 1))) w5)))) (K0 (.int .i64 n1) w)
def F17_1 (K0 : Value → World → Prop) (Kr : Value → Value → World → Prop) : Nat → Value → Value → Value → World → Prop
  | 0 => fun _ _ _ _ => False
  | n + 1 => F17_1B (F17_1 K0 Kr n) K0 Kr
def F17_1O (Q : Post) (t : Tm) (w : World) : Prop := ∃ n, F17_1 (fun y0 w => ∀ g, rsh [(0, (.one (.int .i64)))] (upds g [(0, y0)]) fun t => Q (.exit 0) t w) (fun y4 y5 w => ∀ g, rsh [(4, (.one (.int .i64))), (5, (.one (.int .i64)))] (upds g [(4, y4), (5, y5)]) fun t => Q .ret t w) n (t 0) (t 1) (t 7) w
theorem F17_1_step (K0 : Value → World → Prop) (Kr : Value → Value → World → Prop) (n : Nat) (t : Tm) (w : World) : (F17_1 K0 Kr (n + 1) (t 0) (t 1) (t 7) w) = rsh [(0, (.one (.int .i64))), (1, (.one .slc)), (7, (.one (.int .i64)))] t (fun t => vc Try.prog (orcOf []) [0, 0, 1, 0, 1, 1, 1, 1] (getAt F17_code [0, 0, 1, 0, 1, 1, 1, 1]) (fun o t w => match o with | .normal => F17_1 K0 Kr n (t 0) (t 1) (t 7) w | .exit i => F17_1C K0 Kr (.exit i) t w | .ret => F17_1C K0 Kr .ret t w) t w) := by kernel_rfl
theorem F17_1_ok : ∀ Q t w, F17_1O Q t w → W Try.prog Try.f17.ntmps (getAt F17_code [0, 1, 0, 1, 1, 1, 1]) Q t w := by
  intro Q t w ⟨n, h⟩
  refine (W_loop (P := Try.prog) (b := getAt F17_code [0, 0, 1, 0, 1, 1, 1, 1]) (Q := F17_1C (fun y0 w => ∀ g, rsh [(0, (.one (.int .i64)))] (upds g [(0, y0)]) fun t => Q (.exit 0) t w) (fun y4 y5 w => ∀ g, rsh [(4, (.one (.int .i64))), (5, (.one (.int .i64)))] (upds g [(4, y4), (5, y5)]) fun t => Q .ret t w)) (G := fun n t w => F17_1 (fun y0 w => ∀ g, rsh [(0, (.one (.int .i64)))] (upds g [(0, y0)]) fun t => Q (.exit 0) t w) (fun y4 y5 w => ∀ g, rsh [(4, (.one (.int .i64))), (5, (.one (.int .i64)))] (upds g [(4, y4), (5, y5)]) fun t => Q .ret t w) n (t 0) (t 1) (t 7) w) (fun _ _ h => h) (fun n t w h => ?_) n t w h).mono ?_
  · rw [F17_1_step] at h
    exact vc_sound mixed (orcNil F17_code) _ _ rfl (okC_at F17_code_ok [0, 0, 1, 0, 1, 1, 1, 1]) _ _ _ (rsh_out h)
  · intro o t w q
    cases o with
    | normal => exact q.elim
    | exit i =>
      unfold F17_1C at q
      simp only at q
      split at q
      · rename_i hi
        rw [nbeq] at hi
        subst hi
        exact out_ok [0] q
      · exact q.elim
    | ret => exact out_ok [4, 5] q
def F17_2C (Kr : Value → Value → World → Prop) : Post := fun o t w => match o with | .normal => False | .exit i => (False) | .ret => Kr (t 4) (t 5) w
def F17_2 (Kr : Value → Value → World → Prop) (x0 : Value) (x1 : Value) (w : World) : Prop :=
  rdI .i64 x0 fun n1 => rdC x1 fun l2a l2n l2c => ∃ k12 : Nat, F17_1 (fun y0_2 w4 => ∀ _g5 : Tm, rdI .i64 y0_2 fun n6 => Kr (.int .i64 n6) (.int .i64 0) w4) (fun y4_6 y5_6 w8 => ∀ _g9 : Tm, rdI .i64 y4_6 fun n10 => rdI .i64 y5_6 fun n11 => Kr (.int .i64 n10) (.int .i64 n11) w8) k12 (.int .i64 n1) (.slice l2a l2n l2c) (.int .i64 1) w
def F17_2O (Q : Post) (t : Tm) (w : World) : Prop := F17_2 (fun y4 y5 w => ∀ g, rsh [(4, (.one (.int .i64))), (5, (.one (.int .i64)))] (upds g [(4, y4), (5, y5)]) fun t => Q .ret t w) (t 0) (t 1) w
theorem F17_2_step (Kr : Value → Value → World → Prop) (t : Tm) (w : World) : (F17_2 Kr (t 0) (t 1) w) = rsh [(0, (.one (.int .i64))), (1, (.one .slc))] t (fun t => vc Try.prog (orcOf [([0, 1, 0, 1, 1, 1, 1], F17_1O)]) [1, 1, 1, 1] (getAt F17_code [1, 1, 1, 1]) (F17_2C Kr) t w) := by kernel_rfl
theorem F17_2_ok : ∀ Q t w, F17_2O Q t w → W Try.prog Try.f17.ntmps (getAt F17_code [1, 1, 1, 1]) Q t w := by
  intro Q t w h
  unfold F17_2O at h
  rw [F17_2_step] at h
  refine (vc_sound mixed (orcCons (π := [0, 1, 0, 1, 1, 1, 1]) F17_1_ok (orcNil F17_code)) _ _ rfl (okC_at F17_code_ok [1, 1, 1, 1]) _ _ _ (rsh_out h)).mono ?_
  intro o t w q
  cases o with
  | normal => exact q.elim
  | exit i => exact q.elim
  | ret => exact out_ok [4, 5] q
def F17 (x0 : Value) (x1 : Value) (w : World) (K : Value → World → Prop) : Prop :=
  rdI .i64 x0 fun n1 => rdC x1 fun l2a l2n l2c => Calls Try.prog 14 #[(.slice l2a l2n l2c)] w fun e5 w4 => ∃ n3, e5 = .returned (.int .i64 n3) ∧ (br (n3 != 0) (K (.tuple #[(.int .i64 0), (.int .i64 n3)]) w4) (br (decide ((n1 : Int) < 0)) (K (.tuple #[(.int .i64 0), (.int .i64 5)]) w4) (br (decide ((n1 : Int) ≥ (l2n : Int))) (K (.tuple #[(.int .i64 0), (.int .i64 5)]) w4) (F17_2 (fun y4_5 y5_5 w7 => ∀ _g8 : Tm, rdI .i64 y4_5 fun n9 => rdI .i64 y5_5 fun n10 => K (.tuple #[(.int .i64 n9), (.int .i64 n10)]) w7) (.int .i64 n1) (.slice l2a l2n l2c) w4))))
theorem F17_step (x0 : Value) (x1 : Value) (w : World) (K : Value → World → Prop) : (F17 x0 x1 w K) = rsh [(0, (.one (.int .i64))), (1, (.one .slc))] (args0 #[x0, x1]) (fun t => vc Try.prog (orcOf [([0, 1, 0, 1, 1, 1, 1], F17_1O), ([1, 1, 1, 1], F17_2O)]) [] F17_code (retQ Try.prog Try.f17 K) t w) := by kernel_rfl
theorem F17_ok {x0 x1 : Value} {w : World} {K : Value → World → Prop} (h : F17 x0 x1 w K) : Calls Try.prog 17 #[x0, x1] w fun e w' => ∃ v, e = .returned v ∧ K v w' := by
  rw [F17_step] at h
  exact calls_of (c := F17_code) mixed Try.func17 rfl (nlt rfl) (vc_sound mixed (orcCons (π := [0, 1, 0, 1, 1, 1, 1]) F17_1_ok (orcCons (π := [1, 1, 1, 1]) F17_2_ok (orcNil F17_code))) F17_code [] rfl F17_code_ok _ _ _ (rsh_out h))

/-! ropewalk/ropewalkref18.Fit -/
noncomputable def F18_code : Code := Try.f18.body.getD .skip
theorem F18_code_ok : okC Try.prog Try.f18.ntmps F18_code = true := by kernel_rfl
def F18_1C (K0 : Value → World → Prop) : Post := fun o t w => match o with | .normal => False | .exit i => (match Nat.beq i 0 with | true => K0 (t 4) w | false => False) | .ret => False
def F18_1B (R : Value → Value → Value → Value → World → Prop) (K0 : Value → World → Prop) (x0 : Value) (x3 : Value) (x4 : Value) (x5 : Value) (w : World) : Prop :=
  rdC x0 fun l1a l1n l1c => rdI .i64 x3 fun n2 => rdC x4 fun l3a l3n l3c => rdI .i64 x5 fun n4 => br (decide ((n4 : Int) < (l1n : Int))) (br (n2 == 0) (ixS 4 l1a l1n n4 fun a5 => ldI .i64 (a5.add 1) w fun n6 => br (decide ((n6 : Int) > 0)) (ixS 4 l1a l1n n4 fun a7 => ldB (a7.add 3) w fun b8 => br b8 (alc (.cells #[(.int .i64 n4)] 3) w fun b9 w10 => ∃ l11a l11n l11c w12, Sem.run Try.prog (Builtin.append_ #[23, 23] 23 #[(.slice l3a l3n l3c), (.slice (some (Addr.mk b9 0 none)) 1 1)]) w10 = .ok (.slice l11a l11n l11c) w12 ∧ (R (.slice l1a l1n l1c) (.int .i64 n2) (.slice l11a l11n l11c) (.int .i64 (IntKind.wrap .i64 (n4 + 1))) w12)) (R (.slice l1a l1n l1c) (.int .i64 n2) (.slice l3a l3n l3c) (.int .i64 (IntKind.wrap .i64 (n4 + 1))) w)) (R (.slice l1a l1n l1c) (.int .i64 n2) (.slice l3a l3n l3c) (.int .i64 (IntKind.wrap .i64 (n4 + 1))) w)) (ixS 4 l1a l1n n4 fun a13 => ldI .i64 (a13.add 0) w fun n14 => br (n14 == n2) (ixS 4 l1a l1n n4 fun a15 => ldI .i64 (a15.add 1) w fun n16 => br (decide ((n16 : Int) > 0)) (ixS 4 l1a l1n n4 fun a17 => ldB (a17.add 3) w fun b18 => br b18 (alc (.cells #[(.int .i64 n4)] 3) w fun b19 w20 => ∃ l21a l21n l21c w22, Sem.run Try.prog (Builtin.append_ #[23, 23] 23 #[(.slice l3a l3n l3c), (.slice (some (Addr.mk b19 0 none)) 1 1)]) w20 = .ok (.slice l21a l21n l21c) w22 ∧ (R (.slice l1a l1n l1c) (.int .i64 n2) (.slice l21a l21n l21c) (.int .i64 (IntKind.wrap .i64 (n4 + 1))) w22)) (R (.slice l1a l1n l1c) (.int .i64 n2) (.slice l3a l3n l3c) (.int .i64 (IntKind.wrap .i64 (n4 + 1))) w)) (R (.slice l1a l1n l1c) (.int .i64 n2) (.slice l3a l3n l3c) (.int .i64 (IntKind.wrap .i64 (n4 + 1))) w)) (R (.slice l1a l1n l1c) (.int .i64 n2) (.slice l3a l3n l3c) (.int .i64 (IntKind.wrap .i64 (n4 + 1))) w))) (K0 (.slice l3a l3n l3c) w)
def F18_1 (K0 : Value → World → Prop) : Nat → Value → Value → Value → Value → World → Prop
  | 0 => fun _ _ _ _ _ => False
  | n + 1 => F18_1B (F18_1 K0 n) K0
def F18_1O (Q : Post) (t : Tm) (w : World) : Prop := ∃ n, F18_1 (fun y4 w => ∀ g, rsh [(4, (.one .slc))] (upds g [(4, y4)]) fun t => Q (.exit 0) t w) n (t 0) (t 3) (t 4) (t 5) w
theorem F18_1_step (K0 : Value → World → Prop) (n : Nat) (t : Tm) (w : World) : (F18_1 K0 (n + 1) (t 0) (t 3) (t 4) (t 5) w) = rsh [(0, (.one .slc)), (3, (.one (.int .i64))), (4, (.one .slc)), (5, (.one (.int .i64)))] t (fun t => vc Try.prog (orcOf []) [0, 0, 1, 0, 1, 1, 1] (getAt F18_code [0, 0, 1, 0, 1, 1, 1]) (fun o t w => match o with | .normal => F18_1 K0 n (t 0) (t 3) (t 4) (t 5) w | .exit i => F18_1C K0 (.exit i) t w | .ret => F18_1C K0 .ret t w) t w) := by kernel_rfl
theorem F18_1_ok : ∀ Q t w, F18_1O Q t w → W Try.prog Try.f18.ntmps (getAt F18_code [0, 1, 0, 1, 1, 1]) Q t w := by
  intro Q t w ⟨n, h⟩
  refine (W_loop (P := Try.prog) (b := getAt F18_code [0, 0, 1, 0, 1, 1, 1]) (Q := F18_1C (fun y4 w => ∀ g, rsh [(4, (.one .slc))] (upds g [(4, y4)]) fun t => Q (.exit 0) t w)) (G := fun n t w => F18_1 (fun y4 w => ∀ g, rsh [(4, (.one .slc))] (upds g [(4, y4)]) fun t => Q (.exit 0) t w) n (t 0) (t 3) (t 4) (t 5) w) (fun _ _ h => h) (fun n t w h => ?_) n t w h).mono ?_
  · rw [F18_1_step] at h
    exact vc_sound mixed (orcNil F18_code) _ _ rfl (okC_at F18_code_ok [0, 0, 1, 0, 1, 1, 1]) _ _ _ (rsh_out h)
  · intro o t w q
    cases o with
    | normal => exact q.elim
    | exit i =>
      unfold F18_1C at q
      simp only at q
      split at q
      · rename_i hi
        rw [nbeq] at hi
        subst hi
        exact out_ok [4] q
      · exact q.elim
    | ret => exact q.elim
def F18 (x0 : Value) (w : World) (K : Value → World → Prop) : Prop :=
  rdC x0 fun l1a l1n l1c => Calls Try.prog 31 #[(.slice l1a l1n l1c)] w fun e4 w3 => ∃ n2, e4 = .returned (.int .i64 n2) ∧ (∃ k9 : Nat, F18_1 (fun y4_4 w6 => ∀ _g7 : Tm, rdC y4_4 fun l8a l8n l8c => K (.slice l8a l8n l8c) w6) k9 (.slice l1a l1n l1c) (.int .i64 n2) (.slice none 0 0) (.int .i64 0) w3)
theorem F18_step (x0 : Value) (w : World) (K : Value → World → Prop) : (F18 x0 w K) = rsh [(0, (.one .slc))] (args0 #[x0]) (fun t => vc Try.prog (orcOf [([0, 1, 0, 1, 1, 1], F18_1O)]) [] F18_code (retQ Try.prog Try.f18 K) t w) := by kernel_rfl
theorem F18_ok {x0 : Value} {w : World} {K : Value → World → Prop} (h : F18 x0 w K) : Calls Try.prog 18 #[x0] w fun e w' => ∃ v, e = .returned v ∧ K v w' := by
  rw [F18_step] at h
  exact calls_of (c := F18_code) mixed Try.func18 rfl (nlt rfl) (vc_sound mixed (orcCons (π := [0, 1, 0, 1, 1, 1]) F18_1_ok (orcNil F18_code)) F18_code [] rfl F18_code_ok _ _ _ (rsh_out h))

/-! ropewalk/sched.Order$1 -/
noncomputable def F19_code : Code := Try.f19.body.getD .skip
theorem F19_code_ok : okC Try.prog Try.f19.ntmps F19_code = true := by kernel_rfl
def F19 (x0 : Value) (x1 : Value) (x2 : Value) (w : World) (K : Value → World → Prop) : Prop :=
  rdI .i64 x0 fun n1 => rdA x1 fun a2 => rdA x2 fun a3 => ldI .i64 a2 w fun n4 => ldC a3 w fun l5a l5n l5c => ldC a3 w fun l6a l6n l6c => nz (l6n : Int) (K (.int .i64 (Int.tmod (IntKind.wrap .i64 ((IntKind.wrap .i64 (n1 - n4)) + (l5n : Int))) (l6n : Int))) w)
theorem F19_step (x0 : Value) (x1 : Value) (x2 : Value) (w : World) (K : Value → World → Prop) : (F19 x0 x1 x2 w K) = rsh [(0, (.one (.int .i64))), (1, (.one .adr)), (2, (.one .adr))] (args0 #[x0, x1, x2]) (fun t => vc Try.prog (orcOf []) [] F19_code (retQ Try.prog Try.f19 K) t w) := by kernel_rfl
theorem F19_ok {x0 x1 x2 : Value} {w : World} {K : Value → World → Prop} (h : F19 x0 x1 x2 w K) : Calls Try.prog 19 #[x0, x1, x2] w fun e w' => ∃ v, e = .returned v ∧ K v w' := by
  rw [F19_step] at h
  exact calls_of (c := F19_code) mixed Try.func19 rfl (nlt rfl) (vc_sound mixed (orcNil F19_code) F19_code [] rfl F19_code_ok _ _ _ (rsh_out h))

/-! ropewalk/sched.Order$2 -/
noncomputable def F20_code : Code := Try.f20.body.getD .skip
theorem F20_code_ok : okC Try.prog Try.f20.ntmps F20_code = true := by kernel_rfl
def F20 (x0 : Value) (x1 : Value) (x2 : Value) (w : World) (K : Value → World → Prop) : Prop :=
  rdI .i64 x0 fun n1 => rdI .i64 x1 fun n2 => rdA x2 fun a3 => drw w fun w4 => ∃ w5 : World, Pres w5 w4 ∧ (ldV a3 w4 fun v6 => ldV a3 w5 fun v7 => callV Try.prog v6 #[(.int .i64 n1)] w4 (.one (.one (.int .i64))) fun r10 w9 => ∃ n11, r10 = (.int .i64 n11) ∧ (Pres w5 w9 ∧ (callV Try.prog v7 #[(.int .i64 n2)] w9 (.one (.one (.int .i64))) fun r14 w13 => ∃ n15, r14 = (.int .i64 n15) ∧ (Calls Try.prog 21 #[(.int .i64 n11), (.int .i64 n15)] w13 fun e18 w17 => ∃ n16, e18 = .returned (.int .i64 n16) ∧ (K (.int .i64 n16) w17)))))
theorem F20_step (x0 : Value) (x1 : Value) (x2 : Value) (w : World) (K : Value → World → Prop) : (F20 x0 x1 x2 w K) = rsh [(0, (.one (.int .i64))), (1, (.one (.int .i64))), (2, (.one .adr))] (args0 #[x0, x1, x2]) (fun t => vc Try.prog (orcOf []) [] F20_code (retQ Try.prog Try.f20 K) t w) := by kernel_rfl
theorem F20_ok {x0 x1 x2 : Value} {w : World} {K : Value → World → Prop} (h : F20 x0 x1 x2 w K) : Calls Try.prog 20 #[x0, x1, x2] w fun e w' => ∃ v, e = .returned v ∧ K v w' := by
  rw [F20_step] at h
  exact calls_of (c := F20_code) mixed Try.func20 rfl (nlt rfl) (vc_sound mixed (orcNil F20_code) F20_code [] rfl F20_code_ok _ _ _ (rsh_out h))

/-! cmp.Compare[int] -/
noncomputable def F21_code : Code := Try.f21.body.getD .skip
theorem F21_code_ok : okC Try.prog Try.f21.ntmps F21_code = true := by kernel_rfl
def F21 (x0 : Value) (x1 : Value) (w : World) (K : Value → World → Prop) : Prop :=
  rdI .i64 x0 fun n1 => rdI .i64 x1 fun n2 => Calls Try.prog 32 #[(.int .i64 n1)] w fun e5 w4 => ∃ b3, e5 = .returned (.bool b3) ∧ (Calls Try.prog 32 #[(.int .i64 n2)] w4 fun e8 w7 => ∃ b6, e8 = .returned (.bool b6) ∧ (br b3 (br b6 (K (.int .i64 0) w7) (K (.int .i64 (-1)) w7)) (br b6 (K (.int .i64 1) w7) (br (decide ((n1 : Int) < n2)) (K (.int .i64 (-1)) w7) (br (decide ((n1 : Int) > n2)) (K (.int .i64 1) w7) (K (.int .i64 0) w7))))))
theorem F21_step (x0 : Value) (x1 : Value) (w : World) (K : Value → World → Prop) : (F21 x0 x1 w K) = rsh [(0, (.one (.int .i64))), (1, (.one (.int .i64)))] (args0 #[x0, x1]) (fun t => vc Try.prog (orcOf []) [] F21_code (retQ Try.prog Try.f21 K) t w) := by kernel_rfl
theorem F21_ok {x0 x1 : Value} {w : World} {K : Value → World → Prop} (h : F21 x0 x1 w K) : Calls Try.prog 21 #[x0, x1] w fun e w' => ∃ v, e = .returned v ∧ K v w' := by
  rw [F21_step] at h
  exact calls_of (c := F21_code) mixed Try.func21 rfl (nlt rfl) (vc_sound mixed (orcNil F21_code) F21_code [] rfl F21_code_ok _ _ _ (rsh_out h))

/-! ropewalk/sched.Order$3 -/
noncomputable def F22_code : Code := Try.f22.body.getD .skip
theorem F22_code_ok : okC Try.prog Try.f22.ntmps F22_code = true := by kernel_rfl
def F22 (x0 : Value) (x1 : Value) (x2 : Value) (w : World) (K : Value → World → Prop) : Prop :=
  rdI .i64 x0 fun n1 => rdI .i64 x1 fun n2 => rdA x2 fun a3 => drw w fun w4 => ldC a3 w4 fun l5a l5n l5c => ixS 4 l5a l5n n1 fun a6 => ldI .i64 (a6.add 2) w4 fun n7 => ldC a3 w4 fun l8a l8n l8c => ixS 4 l8a l8n n2 fun a9 => ldI .i64 (a9.add 2) w4 fun n10 => Calls Try.prog 21 #[(.int .i64 n7), (.int .i64 n10)] w4 fun e13 w12 => ∃ n11, e13 = .returned (.int .i64 n11) ∧ (Calls Try.prog 21 #[(.int .i64 n1), (.int .i64 n2)] w12 fun e16 w15 => ∃ n14, e16 = .returned (.int .i64 n14) ∧ (alc (.cells #[(.int .i64 n11), (.int .i64 n14)] 3) w15 fun b17 w18 => Calls Try.prog 23 #[(.slice (some (Addr.mk b17 0 none)) 2 2)] w18 fun e21 w20 => ∃ n19, e21 = .returned (.int .i64 n19) ∧ (K (.int .i64 n19) w20)))
theorem F22_step (x0 : Value) (x1 : Value) (x2 : Value) (w : World) (K : Value → World → Prop) : (F22 x0 x1 x2 w K) = rsh [(0, (.one (.int .i64))), (1, (.one (.int .i64))), (2, (.one .adr))] (args0 #[x0, x1, x2]) (fun t => vc Try.prog (orcOf []) [] F22_code (retQ Try.prog Try.f22 K) t w) := by kernel_rfl
theorem F22_ok {x0 x1 x2 : Value} {w : World} {K : Value → World → Prop} (h : F22 x0 x1 x2 w K) : Calls Try.prog 22 #[x0, x1, x2] w fun e w' => ∃ v, e = .returned v ∧ K v w' := by
  rw [F22_step] at h
  exact calls_of (c := F22_code) mixed Try.func22 rfl (nlt rfl) (vc_sound mixed (orcNil F22_code) F22_code [] rfl F22_code_ok _ _ _ (rsh_out h))

/-! cmp.Or[int] -/
noncomputable def F23_code : Code := Try.f23.body.getD .skip
theorem F23_code_ok : okC Try.prog Try.f23.ntmps F23_code = true := by kernel_rfl
def F23_1C (K0 : Value → World → Prop) (Kr : Value → World → Prop) : Post := fun o t w => match o with | .normal => False | .exit i => (match Nat.beq i 0 with | true => K0 (t 3) w | false => False) | .ret => Kr (t 2) w
def F23_1B (R : Value → Value → Value → Value → World → Prop) (K0 : Value → World → Prop) (Kr : Value → World → Prop) (x3 : Value) (x6 : Value) (x7 : Value) (x8 : Value) (w : World) : Prop :=
  rdI .i64 x3 fun n1 => rdC x6 fun l2a l2n l2c => rdI .i64 x7 fun n3 => rdI .i64 x8 fun n4 => br (decide ((n4 : Int) < n3)) (ixS 1 l2a l2n n4 fun a5 => ldI .i64 a5 w fun n6 => br (n6 != n1) (Kr (.int .i64 n6) w) (R (.int .i64 n1) (.slice l2a l2n l2c) (.int .i64 n3) (.int .i64 (IntKind.wrap .i64 (n4 + 1))) w)) (K0 (.int .i64 n1) w)
def F23_1 (K0 : Value → World → Prop) (Kr : Value → World → Prop) : Nat → Value → Value → Value → Value → World → Prop
  | 0 => fun _ _ _ _ _ => False
  | n + 1 => F23_1B (F23_1 K0 Kr n) K0 Kr
def F23_1O (Q : Post) (t : Tm) (w : World) : Prop := ∃ n, F23_1 (fun y3 w => ∀ g, rsh [(3, (.one (.int .i64)))] (upds g [(3, y3)]) fun t => Q (.exit 0) t w) (fun y2 w => ∀ g, rsh [(2, (.one (.int .i64)))] (upds g [(2, y2)]) fun t => Q .ret t w) n (t 3) (t 6) (t 7) (t 8) w
theorem F23_1_step (K0 : Value → World → Prop) (Kr : Value → World → Prop) (n : Nat) (t : Tm) (w : World) : (F23_1 K0 Kr (n + 1) (t 3) (t 6) (t 7) (t 8) w) = rsh [(3, (.one (.int .i64))), (6, (.one .slc)), (7, (.one (.int .i64))), (8, (.one (.int .i64)))] t (fun t => vc Try.prog (orcOf []) [0, 0, 1, 0, 1, 1] (getAt F23_code [0, 0, 1, 0, 1, 1]) (fun o t w => match o with | .normal => F23_1 K0 Kr n (t 3) (t 6) (t 7) (t 8) w | .exit i => F23_1C K0 Kr (.exit i) t w | .ret => F23_1C K0 Kr .ret t w) t w) := by kernel_rfl
theorem F23_1_ok : ∀ Q t w, F23_1O Q t w → W Try.prog Try.f23.ntmps (getAt F23_code [0, 1, 0, 1, 1]) Q t w := by
  intro Q t w ⟨n, h⟩
  refine (W_loop (P := Try.prog) (b := getAt F23_code [0, 0, 1, 0, 1, 1]) (Q := F23_1C (fun y3 w => ∀ g, rsh [(3, (.one (.int .i64)))] (upds g [(3, y3)]) fun t => Q (.exit 0) t w) (fun y2 w => ∀ g, rsh [(2, (.one (.int .i64)))] (upds g [(2, y2)]) fun t => Q .ret t w)) (G := fun n t w => F23_1 (fun y3 w => ∀ g, rsh [(3, (.one (.int .i64)))] (upds g [(3, y3)]) fun t => Q (.exit 0) t w) (fun y2 w => ∀ g, rsh [(2, (.one (.int .i64)))] (upds g [(2, y2)]) fun t => Q .ret t w) n (t 3) (t 6) (t 7) (t 8) w) (fun _ _ h => h) (fun n t w h => ?_) n t w h).mono ?_
  · rw [F23_1_step] at h
    exact vc_sound mixed (orcNil F23_code) _ _ rfl (okC_at F23_code_ok [0, 0, 1, 0, 1, 1]) _ _ _ (rsh_out h)
  · intro o t w q
    cases o with
    | normal => exact q.elim
    | exit i =>
      unfold F23_1C at q
      simp only at q
      split at q
      · rename_i hi
        rw [nbeq] at hi
        subst hi
        exact out_ok [3] q
      · exact q.elim
    | ret => exact out_ok [2] q
def F23 (x0 : Value) (w : World) (K : Value → World → Prop) : Prop :=
  rdC x0 fun l1a l1n l1c => ∃ k10 : Nat, F23_1 (fun y3_1 w3 => ∀ _g4 : Tm, rdI .i64 y3_1 fun n5 => K (.int .i64 n5) w3) (fun y2_5 w7 => ∀ _g8 : Tm, rdI .i64 y2_5 fun n9 => K (.int .i64 n9) w7) k10 (.int .i64 0) (.slice l1a l1n l1c) (.int .i64 (l1n : Int)) (.int .i64 0) w
theorem F23_step (x0 : Value) (w : World) (K : Value → World → Prop) : (F23 x0 w K) = rsh [(0, (.one .slc))] (args0 #[x0]) (fun t => vc Try.prog (orcOf [([0, 1, 0, 1, 1], F23_1O)]) [] F23_code (retQ Try.prog Try.f23 K) t w) := by kernel_rfl
theorem F23_ok {x0 : Value} {w : World} {K : Value → World → Prop} (h : F23 x0 w K) : Calls Try.prog 23 #[x0] w fun e w' => ∃ v, e = .returned v ∧ K v w' := by
  rw [F23_step] at h
  exact calls_of (c := F23_code) mixed Try.func23 rfl (nlt rfl) (vc_sound mixed (orcCons (π := [0, 1, 0, 1, 1]) F23_1_ok (orcNil F23_code)) F23_code [] rfl F23_code_ok _ _ _ (rsh_out h))

/-! ropewalk/sched.Order$4 -/
noncomputable def F24_code : Code := Try.f24.body.getD .skip
theorem F24_code_ok : okC Try.prog Try.f24.ntmps F24_code = true := by kernel_rfl
def F24 (x0 : Value) (x1 : Value) (x2 : Value) (w : World) (K : Value → World → Prop) : Prop :=
  rdI .i64 x0 fun n1 => rdI .i64 x1 fun n2 => rdA x2 fun a3 => drw w fun w4 => ldC a3 w4 fun l5a l5n l5c => ixS 4 l5a l5n n2 fun a6 => ldI .i64 (a6.add 1) w4 fun n7 => ldC a3 w4 fun l8a l8n l8c => ixS 4 l8a l8n n1 fun a9 => ldI .i64 (a9.add 1) w4 fun n10 => Calls Try.prog 21 #[(.int .i64 n7), (.int .i64 n10)] w4 fun e13 w12 => ∃ n11, e13 = .returned (.int .i64 n11) ∧ (Calls Try.prog 21 #[(.int .i64 n1), (.int .i64 n2)] w12 fun e16 w15 => ∃ n14, e16 = .returned (.int .i64 n14) ∧ (alc (.cells #[(.int .i64 n11), (.int .i64 n14)] 3) w15 fun b17 w18 => Calls Try.prog 23 #[(.slice (some (Addr.mk b17 0 none)) 2 2)] w18 fun e21 w20 => ∃ n19, e21 = .returned (.int .i64 n19) ∧ (K (.int .i64 n19) w20)))
theorem F24_step (x0 : Value) (x1 : Value) (x2 : Value) (w : World) (K : Value → World → Prop) : (F24 x0 x1 x2 w K) = rsh [(0, (.one (.int .i64))), (1, (.one (.int .i64))), (2, (.one .adr))] (args0 #[x0, x1, x2]) (fun t => vc Try.prog (orcOf []) [] F24_code (retQ Try.prog Try.f24 K) t w) := by kernel_rfl
theorem F24_ok {x0 x1 x2 : Value} {w : World} {K : Value → World → Prop} (h : F24 x0 x1 x2 w K) : Calls Try.prog 24 #[x0, x1, x2] w fun e w' => ∃ v, e = .returned v ∧ K v w' := by
  rw [F24_step] at h
  exact calls_of (c := F24_code) mixed Try.func24 rfl (nlt rfl) (vc_sound mixed (orcNil F24_code) F24_code [] rfl F24_code_ok _ _ _ (rsh_out h))

/-! ropewalk/sched.class -/
noncomputable def F25_code : Code := Try.f25.body.getD .skip
theorem F25_code_ok : okC Try.prog Try.f25.ntmps F25_code = true := by kernel_rfl
def F25_1C (K0 : Value → World → Prop) (Kr : Value → World → Prop) : Post := fun o t w => match o with | .normal => False | .exit i => (match Nat.beq i 0 with | true => K0 (t 0) w | false => False) | .ret => Kr (t 2) w
def F25_1B (R : Value → Value → Value → Value → World → Prop) (K0 : Value → World → Prop) (Kr : Value → World → Prop) (x0 : Value) (x6 : Value) (x7 : Value) (x8 : Value) (w : World) : Prop :=
  rdC x0 fun l1a l1n l1c => rdC x6 fun l2a l2n l2c => rdI .i64 x7 fun n3 => rdI .i64 x8 fun n4 => br (decide ((n4 : Int) < n3)) (ixS 1 l2a l2n n4 fun a5 => ldI .i64 a5 w fun n6 => Calls Try.prog 29 #[(.slice l1a l1n l1c), (.int .i64 n6)] w fun e9 w8 => ∃ l7a l7n l7c, e9 = .returned (.slice l7a l7n l7c) ∧ (br (decide (((l7n : Int) : Int) > 0)) (Kr (.slice l7a l7n l7c) w8) (R (.slice l1a l1n l1c) (.slice l2a l2n l2c) (.int .i64 n3) (.int .i64 (IntKind.wrap .i64 (n4 + 1))) w8))) (K0 (.slice l1a l1n l1c) w)
def F25_1 (K0 : Value → World → Prop) (Kr : Value → World → Prop) : Nat → Value → Value → Value → Value → World → Prop
  | 0 => fun _ _ _ _ _ => False
  | n + 1 => F25_1B (F25_1 K0 Kr n) K0 Kr
def F25_1O (Q : Post) (t : Tm) (w : World) : Prop := ∃ n, F25_1 (fun y0 w => ∀ g, rsh [(0, (.one .slc))] (upds g [(0, y0)]) fun t => Q (.exit 0) t w) (fun y2 w => ∀ g, rsh [(2, (.one .slc))] (upds g [(2, y2)]) fun t => Q .ret t w) n (t 0) (t 6) (t 7) (t 8) w
theorem F25_1_step (K0 : Value → World → Prop) (Kr : Value → World → Prop) (n : Nat) (t : Tm) (w : World) : (F25_1 K0 Kr (n + 1) (t 0) (t 6) (t 7) (t 8) w) = rsh [(0, (.one .slc)), (6, (.one .slc)), (7, (.one (.int .i64))), (8, (.one (.int .i64)))] t (fun t => vc Try.prog (orcOf []) [0, 0, 1, 0, 1] (getAt F25_code [0, 0, 1, 0, 1]) (fun o t w => match o with | .normal => F25_1 K0 Kr n (t 0) (t 6) (t 7) (t 8) w | .exit i => F25_1C K0 Kr (.exit i) t w | .ret => F25_1C K0 Kr .ret t w) t w) := by kernel_rfl
theorem F25_1_ok : ∀ Q t w, F25_1O Q t w → W Try.prog Try.f25.ntmps (getAt F25_code [0, 1, 0, 1]) Q t w := by
  intro Q t w ⟨n, h⟩
  refine (W_loop (P := Try.prog) (b := getAt F25_code [0, 0, 1, 0, 1]) (Q := F25_1C (fun y0 w => ∀ g, rsh [(0, (.one .slc))] (upds g [(0, y0)]) fun t => Q (.exit 0) t w) (fun y2 w => ∀ g, rsh [(2, (.one .slc))] (upds g [(2, y2)]) fun t => Q .ret t w)) (G := fun n t w => F25_1 (fun y0 w => ∀ g, rsh [(0, (.one .slc))] (upds g [(0, y0)]) fun t => Q (.exit 0) t w) (fun y2 w => ∀ g, rsh [(2, (.one .slc))] (upds g [(2, y2)]) fun t => Q .ret t w) n (t 0) (t 6) (t 7) (t 8) w) (fun _ _ h => h) (fun n t w h => ?_) n t w h).mono ?_
  · rw [F25_1_step] at h
    exact vc_sound mixed (orcNil F25_code) _ _ rfl (okC_at F25_code_ok [0, 0, 1, 0, 1]) _ _ _ (rsh_out h)
  · intro o t w q
    cases o with
    | normal => exact q.elim
    | exit i =>
      unfold F25_1C at q
      simp only at q
      split at q
      · rename_i hi
        rw [nbeq] at hi
        subst hi
        exact out_ok [0] q
      · exact q.elim
    | ret => exact out_ok [2] q
def F25 (x0 : Value) (w : World) (K : Value → World → Prop) : Prop :=
  rdC x0 fun l1a l1n l1c => alc (.cells #[(.int .i64 1), (.int .i64 2)] 40) w fun b2 w3 => ∃ k15 : Nat, F25_1 (fun y0_3 w5 => ∀ _g6 : Tm, rdC y0_3 fun l7a l7n l7c => Calls Try.prog 29 #[(.slice l7a l7n l7c), (.int .i64 3)] w5 fun e10 w9 => ∃ l8a l8n l8c, e10 = .returned (.slice l8a l8n l8c) ∧ (K (.slice l8a l8n l8c) w9)) (fun y2_10 w12 => ∀ _g13 : Tm, rdC y2_10 fun l14a l14n l14c => K (.slice l14a l14n l14c) w12) k15 (.slice l1a l1n l1c) (.slice (some (Addr.mk b2 0 none)) 2 2) (.int .i64 (2 : Int)) (.int .i64 0) w3
theorem F25_step (x0 : Value) (w : World) (K : Value → World → Prop) : (F25 x0 w K) = rsh [(0, (.one .slc))] (args0 #[x0]) (fun t => vc Try.prog (orcOf [([0, 1, 0, 1], F25_1O)]) [] F25_code (retQ Try.prog Try.f25 K) t w) := by kernel_rfl
theorem F25_ok {x0 : Value} {w : World} {K : Value → World → Prop} (h : F25 x0 w K) : Calls Try.prog 25 #[x0] w fun e w' => ∃ v, e = .returned v ∧ K v w' := by
  rw [F25_step] at h
  exact calls_of (c := F25_code) mixed Try.func25 rfl (nlt rfl) (vc_sound mixed (orcCons (π := [0, 1, 0, 1]) F25_1_ok (orcNil F25_code)) F25_code [] rfl F25_code_ok _ _ _ (rsh_out h))

/-! slices.SortFunc[[]int,int] -/
noncomputable def F26_code : Code := Try.f26.body.getD .skip
theorem F26_code_ok : okC Try.prog Try.f26.ntmps F26_code = true := by kernel_rfl
def F26 (x0 : Value) (x1 : Value) (w : World) (K : Value → World → Prop) : Prop :=
  rdC x0 fun l1a l1n l1c => Calls Try.prog 34 #[(.int .u64 (IntKind.wrap .u64 ((l1n : Int))))] w fun e4 w3 => ∃ n2, e4 = .returned (.int .i64 n2) ∧ (Calls Try.prog 33 #[(.slice l1a l1n l1c), (.int .i64 0), (.int .i64 (l1n : Int)), (.int .i64 n2), x1] w3 fun e6 w5 => e6 = .returned (.tuple #[]) ∧ (K (.tuple #[]) w5))
theorem F26_step (x0 : Value) (x1 : Value) (w : World) (K : Value → World → Prop) : (F26 x0 x1 w K) = rsh [(0, (.one .slc))] (args0 #[x0, x1]) (fun t => vc Try.prog (orcOf []) [] F26_code (retQ Try.prog Try.f26 K) t w) := by kernel_rfl
theorem F26_ok {x0 x1 : Value} {w : World} {K : Value → World → Prop} (h : F26 x0 x1 w K) : Calls Try.prog 26 #[x0, x1] w fun e w' => ∃ v, e = .returned v ∧ K v w' := by
  rw [F26_step] at h
  exact calls_of (c := F26_code) mixed Try.func26 rfl (nlt rfl) (vc_sound mixed (orcNil F26_code) F26_code [] rfl F26_code_ok _ _ _ (rsh_out h))

/-! ropewalk/ropewalkref18.better -/
noncomputable def F27_code : Code := Try.f27.body.getD .skip
theorem F27_code_ok : okC Try.prog Try.f27.ntmps F27_code = true := by kernel_rfl
def F27 (x0 : Value) (x1 : Value) (x2 : Value) (x3 : Value) (x4 : Value) (w : World) (K : Value → World → Prop) : Prop :=
  rdI .i64 x0 fun n1 => rdI .i64 x1 fun n2 => rdC x2 fun l3a l3n l3c => rdI .i64 x3 fun n4 => rdI .i64 x4 fun n5 => br (n1 == 1) (drw w fun w6 => ixS 4 l3a l3n n4 fun a7 => ldI .i64 (a7.add 2) w6 fun n8 => ixS 4 l3a l3n n5 fun a9 => ldI .i64 (a9.add 2) w6 fun n10 => br (n8 != n10) (drw w6 fun w11 => ixS 4 l3a l3n n4 fun a12 => ldI .i64 (a12.add 2) w11 fun n13 => ixS 4 l3a l3n n5 fun a14 => ldI .i64 (a14.add 2) w11 fun n15 => K (.bool (decide ((n13 : Int) < n15))) w11) (K (.bool (decide ((n4 : Int) < n5))) w6)) (br (n1 == 2) (drw w fun w16 => ixS 4 l3a l3n n4 fun a17 => ldI .i64 (a17.add 1) w16 fun n18 => ixS 4 l3a l3n n5 fun a19 => ldI .i64 (a19.add 1) w16 fun n20 => br (n18 != n20) (drw w16 fun w21 => ixS 4 l3a l3n n4 fun a22 => ldI .i64 (a22.add 1) w21 fun n23 => ixS 4 l3a l3n n5 fun a24 => ldI .i64 (a24.add 1) w21 fun n25 => K (.bool (decide ((n23 : Int) > n25))) w21) (K (.bool (decide ((n4 : Int) < n5))) w16)) (br (decide ((n2 : Int) ≥ 0)) (br (decide ((n2 : Int) < (l3n : Int))) (br (!((decide ((n4 : Int) > n2)) == (decide ((n5 : Int) > n2)))) (K (.bool (decide ((n4 : Int) > n2))) w) (K (.bool (decide ((n4 : Int) < n5))) w)) (K (.bool (decide ((n4 : Int) < n5))) w)) (K (.bool (decide ((n4 : Int) < n5))) w)))
theorem F27_step (x0 : Value) (x1 : Value) (x2 : Value) (x3 : Value) (x4 : Value) (w : World) (K : Value → World → Prop) : (F27 x0 x1 x2 x3 x4 w K) = rsh [(0, (.one (.int .i64))), (1, (.one (.int .i64))), (2, (.one .slc)), (3, (.one (.int .i64))), (4, (.one (.int .i64)))] (args0 #[x0, x1, x2, x3, x4]) (fun t => vc Try.prog (orcOf []) [] F27_code (retQ Try.prog Try.f27 K) t w) := by kernel_rfl
theorem F27_ok {x0 x1 x2 x3 x4 : Value} {w : World} {K : Value → World → Prop} (h : F27 x0 x1 x2 x3 x4 w K) : Calls Try.prog 27 #[x0, x1, x2, x3, x4] w fun e w' => ∃ v, e = .returned v ∧ K v w' := by
  rw [F27_step] at h
  exact calls_of (c := F27_code) mixed Try.func27 rfl (nlt rfl) (vc_sound mixed (orcNil F27_code) F27_code [] rfl F27_code_ok _ _ _ (rsh_out h))

/-! ropewalk/ropewalkref18.may -/
noncomputable def F28_code : Code := Try.f28.body.getD .skip
theorem F28_code_ok : okC Try.prog Try.f28.ntmps F28_code = true := by kernel_rfl
def F28 (x0 : Value) (w : World) (K : Value → World → Prop) : Prop :=
  ∃ n1 n2 n3 b4, x0 = (.agg #[(.int .i64 n1), (.int .i64 n2), (.int .i64 n3), (.bool b4)]) ∧ (alc (.cells #[(.int .i64 n1), (.int .i64 n2), (.int .i64 n3), (.bool b4)] 42) w fun b5 w6 => ldI .i64 ((Addr.mk b5 0 none).add 0) w6 fun n7 => br (decide ((n7 : Int) ≥ 1)) (ldI .i64 ((Addr.mk b5 0 none).add 0) w6 fun n8 => br (decide ((n8 : Int) ≤ 3)) (ldI .i64 ((Addr.mk b5 0 none).add 1) w6 fun n9 => br (decide ((n9 : Int) ≥ 0)) (ldI .i64 ((Addr.mk b5 0 none).add 1) w6 fun n10 => br (decide ((n10 : Int) ≤ 1073741824)) (ldI .i64 ((Addr.mk b5 0 none).add 2) w6 fun n11 => br (decide ((n11 : Int) ≥ 0)) (ldI .i64 ((Addr.mk b5 0 none).add 2) w6 fun n12 => K (.bool (decide ((n12 : Int) ≤ 1048576))) w6) (K (.bool false) w6)) (K (.bool false) w6)) (K (.bool false) w6)) (K (.bool false) w6)) (K (.bool false) w6))
theorem F28_step (x0 : Value) (w : World) (K : Value → World → Prop) : (F28 x0 w K) = rsh [(0, (.agg [(.int .i64), (.int .i64), (.int .i64), .bool]))] (args0 #[x0]) (fun t => vc Try.prog (orcOf []) [] F28_code (retQ Try.prog Try.f28 K) t w) := by kernel_rfl
theorem F28_ok {x0 : Value} {w : World} {K : Value → World → Prop} (h : F28 x0 w K) : Calls Try.prog 28 #[x0] w fun e w' => ∃ v, e = .returned v ∧ K v w' := by
  rw [F28_step] at h
  exact calls_of (c := F28_code) mixed Try.func28 rfl (nlt rfl) (vc_sound mixed (orcNil F28_code) F28_code [] rfl F28_code_ok _ _ _ (rsh_out h))

/-! ropewalk/sched.of -/
noncomputable def F29_code : Code := Try.f29.body.getD .skip
theorem F29_code_ok : okC Try.prog Try.f29.ntmps F29_code = true := by kernel_rfl
def F29_1C (K0 : Value → World → Prop) : Post := fun o t w => match o with | .normal => False | .exit i => (match Nat.beq i 0 with | true => K0 (t 5) w | false => False) | .ret => False
def F29_1B (R : Value → Value → Value → Value → Value → World → Prop) (K0 : Value → World → Prop) (x1 : Value) (x5 : Value) (x8 : Value) (x9 : Value) (x10 : Value) (w : World) : Prop :=
  rdI .i64 x1 fun n1 => rdC x5 fun l2a l2n l2c => rdC x8 fun l3a l3n l3c => rdI .i64 x9 fun n4 => rdI .i64 x10 fun n5 => br (decide ((n5 : Int) < n4)) (ixS 4 l3a l3n n5 fun a6 => ldI .i64 (a6.add 0) w fun n7 => ldI .i64 (a6.add 1) w fun n8 => ldI .i64 (a6.add 2) w fun n9 => ldB (a6.add 3) w fun b10 => alc (.cells #[(.int .i64 0), (.int .i64 0), (.int .i64 0), (.bool false)] 42) w fun b11 w12 => stc ((Addr.mk b11 0 none).add 0) (.int .i64 n7) w12 fun w13 => stc ((Addr.mk b11 0 none).add 1) (.int .i64 n8) w13 fun w14 => stc ((Addr.mk b11 0 none).add 2) (.int .i64 n9) w14 fun w15 => stc ((Addr.mk b11 0 none).add 3) (.bool b10) w15 fun w16 => ldI .i64 ((Addr.mk b11 0 none).add 0) w16 fun n17 => br (n17 == n1) (alc (.cells #[(.int .i64 n5)] 3) w16 fun b18 w19 => ∃ l20a l20n l20c w21, Sem.run Try.prog (Builtin.append_ #[23, 23] 23 #[(.slice l2a l2n l2c), (.slice (some (Addr.mk b18 0 none)) 1 1)]) w19 = .ok (.slice l20a l20n l20c) w21 ∧ (R (.int .i64 n1) (.slice l20a l20n l20c) (.slice l3a l3n l3c) (.int .i64 n4) (.int .i64 (IntKind.wrap .i64 (n5 + 1))) w21)) (R (.int .i64 n1) (.slice l2a l2n l2c) (.slice l3a l3n l3c) (.int .i64 n4) (.int .i64 (IntKind.wrap .i64 (n5 + 1))) w16)) (K0 (.slice l2a l2n l2c) w)
def F29_1 (K0 : Value → World → Prop) : Nat → Value → Value → Value → Value → Value → World → Prop
  | 0 => fun _ _ _ _ _ _ => False
  | n + 1 => F29_1B (F29_1 K0 n) K0
def F29_1O (Q : Post) (t : Tm) (w : World) : Prop := ∃ n, F29_1 (fun y5 w => ∀ g, rsh [(5, (.one .slc))] (upds g [(5, y5)]) fun t => Q (.exit 0) t w) n (t 1) (t 5) (t 8) (t 9) (t 10) w
theorem F29_1_step (K0 : Value → World → Prop) (n : Nat) (t : Tm) (w : World) : (F29_1 K0 (n + 1) (t 1) (t 5) (t 8) (t 9) (t 10) w) = rsh [(1, (.one (.int .i64))), (5, (.one .slc)), (8, (.one .slc)), (9, (.one (.int .i64))), (10, (.one (.int .i64)))] t (fun t => vc Try.prog (orcOf []) [0, 0, 1, 0, 1, 1] (getAt F29_code [0, 0, 1, 0, 1, 1]) (fun o t w => match o with | .normal => F29_1 K0 n (t 1) (t 5) (t 8) (t 9) (t 10) w | .exit i => F29_1C K0 (.exit i) t w | .ret => F29_1C K0 .ret t w) t w) := by kernel_rfl
theorem F29_1_ok : ∀ Q t w, F29_1O Q t w → W Try.prog Try.f29.ntmps (getAt F29_code [0, 1, 0, 1, 1]) Q t w := by
  intro Q t w ⟨n, h⟩
  refine (W_loop (P := Try.prog) (b := getAt F29_code [0, 0, 1, 0, 1, 1]) (Q := F29_1C (fun y5 w => ∀ g, rsh [(5, (.one .slc))] (upds g [(5, y5)]) fun t => Q (.exit 0) t w)) (G := fun n t w => F29_1 (fun y5 w => ∀ g, rsh [(5, (.one .slc))] (upds g [(5, y5)]) fun t => Q (.exit 0) t w) n (t 1) (t 5) (t 8) (t 9) (t 10) w) (fun _ _ h => h) (fun n t w h => ?_) n t w h).mono ?_
  · rw [F29_1_step] at h
    exact vc_sound mixed (orcNil F29_code) _ _ rfl (okC_at F29_code_ok [0, 0, 1, 0, 1, 1]) _ _ _ (rsh_out h)
  · intro o t w q
    cases o with
    | normal => exact q.elim
    | exit i =>
      unfold F29_1C at q
      simp only at q
      split at q
      · rename_i hi
        rw [nbeq] at hi
        subst hi
        exact out_ok [5] q
      · exact q.elim
    | ret => exact q.elim
def F29 (x0 : Value) (x1 : Value) (w : World) (K : Value → World → Prop) : Prop :=
  rdC x0 fun l1a l1n l1c => rdI .i64 x1 fun n2 => ∃ k7 : Nat, F29_1 (fun y5_2 w4 => ∀ _g5 : Tm, rdC y5_2 fun l6a l6n l6c => K (.slice l6a l6n l6c) w4) k7 (.int .i64 n2) (.slice none 0 0) (.slice l1a l1n l1c) (.int .i64 (l1n : Int)) (.int .i64 0) w
theorem F29_step (x0 : Value) (x1 : Value) (w : World) (K : Value → World → Prop) : (F29 x0 x1 w K) = rsh [(0, (.one .slc)), (1, (.one (.int .i64)))] (args0 #[x0, x1]) (fun t => vc Try.prog (orcOf [([0, 1, 0, 1, 1], F29_1O)]) [] F29_code (retQ Try.prog Try.f29 K) t w) := by kernel_rfl
theorem F29_ok {x0 x1 : Value} {w : World} {K : Value → World → Prop} (h : F29 x0 x1 w K) : Calls Try.prog 29 #[x0, x1] w fun e w' => ∃ v, e = .returned v ∧ K v w' := by
  rw [F29_step] at h
  exact calls_of (c := F29_code) mixed Try.func29 rfl (nlt rfl) (vc_sound mixed (orcCons (π := [0, 1, 0, 1, 1]) F29_1_ok (orcNil F29_code)) F29_code [] rfl F29_code_ok _ _ _ (rsh_out h))

/-! ropewalk/ropewalkref18.most -/
noncomputable def F30_code : Code := Try.f30.body.getD .skip
theorem F30_code_ok : okC Try.prog Try.f30.ntmps F30_code = true := by kernel_rfl
def F30_1C (K0 : Value → World → Prop) : Post := fun o t w => match o with | .normal => False | .exit i => (match Nat.beq i 0 with | true => K0 (t 7) w | false => False) | .ret => False
def F30_1B (R : Value → Value → Value → Value → Value → World → Prop) (K0 : Value → World → Prop) (x0 : Value) (x1 : Value) (x2 : Value) (x7 : Value) (x8 : Value) (w : World) : Prop :=
  rdC x0 fun l1a l1n l1c => rdI .i64 x1 fun n2 => rdI .i64 x2 fun n3 => rdI .i64 x7 fun n4 => rdI .i64 x8 fun n5 => br (decide ((n5 : Int) < (l1n : Int))) (drw w fun w6 => ixS 4 l1a l1n n5 fun a7 => ldI .i64 (a7.add 0) w6 fun n8 => br (n8 == n2) (br (n5 != n3) (br (decide ((n4 : Int) < 0)) (R (.slice l1a l1n l1c) (.int .i64 n2) (.int .i64 n3) (.int .i64 n5) (.int .i64 (IntKind.wrap .i64 (n5 + 1))) w6) (ixS 4 l1a l1n n5 fun a9 => ldI .i64 (a9.add 1) w6 fun n10 => ixS 4 l1a l1n n4 fun a11 => ldI .i64 (a11.add 1) w6 fun n12 => br (decide ((n10 : Int) > n12)) (R (.slice l1a l1n l1c) (.int .i64 n2) (.int .i64 n3) (.int .i64 n5) (.int .i64 (IntKind.wrap .i64 (n5 + 1))) w6) (R (.slice l1a l1n l1c) (.int .i64 n2) (.int .i64 n3) (.int .i64 n4) (.int .i64 (IntKind.wrap .i64 (n5 + 1))) w6))) (R (.slice l1a l1n l1c) (.int .i64 n2) (.int .i64 n3) (.int .i64 n4) (.int .i64 (IntKind.wrap .i64 (n5 + 1))) w6)) (R (.slice l1a l1n l1c) (.int .i64 n2) (.int .i64 n3) (.int .i64 n4) (.int .i64 (IntKind.wrap .i64 (n5 + 1))) w6)) (K0 (.int .i64 n4) w)
def F30_1 (K0 : Value → World → Prop) : Nat → Value → Value → Value → Value → Value → World → Prop
  | 0 => fun _ _ _ _ _ _ => False
  | n + 1 => F30_1B (F30_1 K0 n) K0
def F30_1O (Q : Post) (t : Tm) (w : World) : Prop := ∃ n, F30_1 (fun y7 w => ∀ g, rsh [(7, (.one (.int .i64)))] (upds g [(7, y7)]) fun t => Q (.exit 0) t w) n (t 0) (t 1) (t 2) (t 7) (t 8) w
theorem F30_1_step (K0 : Value → World → Prop) (n : Nat) (t : Tm) (w : World) : (F30_1 K0 (n + 1) (t 0) (t 1) (t 2) (t 7) (t 8) w) = rsh [(0, (.one .slc)), (1, (.one (.int .i64))), (2, (.one (.int .i64))), (7, (.one (.int .i64))), (8, (.one (.int .i64)))] t (fun t => vc Try.prog (orcOf []) [0, 0, 1, 0, 1, 1] (getAt F30_code [0, 0, 1, 0, 1, 1]) (fun o t w => match o with | .normal => F30_1 K0 n (t 0) (t 1) (t 2) (t 7) (t 8) w | .exit i => F30_1C K0 (.exit i) t w | .ret => F30_1C K0 .ret t w) t w) := by kernel_rfl
theorem F30_1_ok : ∀ Q t w, F30_1O Q t w → W Try.prog Try.f30.ntmps (getAt F30_code [0, 1, 0, 1, 1]) Q t w := by
  intro Q t w ⟨n, h⟩
  refine (W_loop (P := Try.prog) (b := getAt F30_code [0, 0, 1, 0, 1, 1]) (Q := F30_1C (fun y7 w => ∀ g, rsh [(7, (.one (.int .i64)))] (upds g [(7, y7)]) fun t => Q (.exit 0) t w)) (G := fun n t w => F30_1 (fun y7 w => ∀ g, rsh [(7, (.one (.int .i64)))] (upds g [(7, y7)]) fun t => Q (.exit 0) t w) n (t 0) (t 1) (t 2) (t 7) (t 8) w) (fun _ _ h => h) (fun n t w h => ?_) n t w h).mono ?_
  · rw [F30_1_step] at h
    exact vc_sound mixed (orcNil F30_code) _ _ rfl (okC_at F30_code_ok [0, 0, 1, 0, 1, 1]) _ _ _ (rsh_out h)
  · intro o t w q
    cases o with
    | normal => exact q.elim
    | exit i =>
      unfold F30_1C at q
      simp only at q
      split at q
      · rename_i hi
        rw [nbeq] at hi
        subst hi
        exact out_ok [7] q
      · exact q.elim
    | ret => exact q.elim
def F30 (x0 : Value) (x1 : Value) (x2 : Value) (w : World) (K : Value → World → Prop) : Prop :=
  rdC x0 fun l1a l1n l1c => rdI .i64 x1 fun n2 => rdI .i64 x2 fun n3 => ∃ k8 : Nat, F30_1 (fun y7_3 w5 => ∀ _g6 : Tm, rdI .i64 y7_3 fun n7 => K (.int .i64 n7) w5) k8 (.slice l1a l1n l1c) (.int .i64 n2) (.int .i64 n3) (.int .i64 (-1)) (.int .i64 0) w
theorem F30_step (x0 : Value) (x1 : Value) (x2 : Value) (w : World) (K : Value → World → Prop) : (F30 x0 x1 x2 w K) = rsh [(0, (.one .slc)), (1, (.one (.int .i64))), (2, (.one (.int .i64)))] (args0 #[x0, x1, x2]) (fun t => vc Try.prog (orcOf [([0, 1, 0, 1, 1], F30_1O)]) [] F30_code (retQ Try.prog Try.f30 K) t w) := by kernel_rfl
theorem F30_ok {x0 x1 x2 : Value} {w : World} {K : Value → World → Prop} (h : F30 x0 x1 x2 w K) : Calls Try.prog 30 #[x0, x1, x2] w fun e w' => ∃ v, e = .returned v ∧ K v w' := by
  rw [F30_step] at h
  exact calls_of (c := F30_code) mixed Try.func30 rfl (nlt rfl) (vc_sound mixed (orcCons (π := [0, 1, 0, 1, 1]) F30_1_ok (orcNil F30_code)) F30_code [] rfl F30_code_ok _ _ _ (rsh_out h))

/-! ropewalk/ropewalkref18.class -/
noncomputable def F31_code : Code := Try.f31.body.getD .skip
theorem F31_code_ok : okC Try.prog Try.f31.ntmps F31_code = true := by kernel_rfl
def F31_1C (K0 : Value → World → Prop) : Post := fun o t w => match o with | .normal => False | .exit i => (match Nat.beq i 0 with | true => K0 (t 3) w | false => False) | .ret => False
def F31_1B (R : Value → Value → Value → World → Prop) (K0 : Value → World → Prop) (x0 : Value) (x3 : Value) (x4 : Value) (w : World) : Prop :=
  rdC x0 fun l1a l1n l1c => rdI .i64 x3 fun n2 => rdI .i64 x4 fun n3 => br (decide ((n3 : Int) < (l1n : Int))) (ixS 4 l1a l1n n3 fun a4 => ldI .i64 (a4.add 0) w fun n5 => R (.slice l1a l1n l1c) (.int .i64 (if (n5 : Int) < n2 then n5 else n2)) (.int .i64 (IntKind.wrap .i64 (n3 + 1))) w) (K0 (.int .i64 n2) w)
def F31_1 (K0 : Value → World → Prop) : Nat → Value → Value → Value → World → Prop
  | 0 => fun _ _ _ _ => False
  | n + 1 => F31_1B (F31_1 K0 n) K0
def F31_1O (Q : Post) (t : Tm) (w : World) : Prop := ∃ n, F31_1 (fun y3 w => ∀ g, rsh [(3, (.one (.int .i64)))] (upds g [(3, y3)]) fun t => Q (.exit 0) t w) n (t 0) (t 3) (t 4) w
theorem F31_1_step (K0 : Value → World → Prop) (n : Nat) (t : Tm) (w : World) : (F31_1 K0 (n + 1) (t 0) (t 3) (t 4) w) = rsh [(0, (.one .slc)), (3, (.one (.int .i64))), (4, (.one (.int .i64)))] t (fun t => vc Try.prog (orcOf []) [0, 0, 1, 0, 1, 1] (getAt F31_code [0, 0, 1, 0, 1, 1]) (fun o t w => match o with | .normal => F31_1 K0 n (t 0) (t 3) (t 4) w | .exit i => F31_1C K0 (.exit i) t w | .ret => F31_1C K0 .ret t w) t w) := by kernel_rfl
theorem F31_1_ok : ∀ Q t w, F31_1O Q t w → W Try.prog Try.f31.ntmps (getAt F31_code [0, 1, 0, 1, 1]) Q t w := by
  intro Q t w ⟨n, h⟩
  refine (W_loop (P := Try.prog) (b := getAt F31_code [0, 0, 1, 0, 1, 1]) (Q := F31_1C (fun y3 w => ∀ g, rsh [(3, (.one (.int .i64)))] (upds g [(3, y3)]) fun t => Q (.exit 0) t w)) (G := fun n t w => F31_1 (fun y3 w => ∀ g, rsh [(3, (.one (.int .i64)))] (upds g [(3, y3)]) fun t => Q (.exit 0) t w) n (t 0) (t 3) (t 4) w) (fun _ _ h => h) (fun n t w h => ?_) n t w h).mono ?_
  · rw [F31_1_step] at h
    exact vc_sound mixed (orcNil F31_code) _ _ rfl (okC_at F31_code_ok [0, 0, 1, 0, 1, 1]) _ _ _ (rsh_out h)
  · intro o t w q
    cases o with
    | normal => exact q.elim
    | exit i =>
      unfold F31_1C at q
      simp only at q
      split at q
      · rename_i hi
        rw [nbeq] at hi
        subst hi
        exact out_ok [3] q
      · exact q.elim
    | ret => exact q.elim
def F31 (x0 : Value) (w : World) (K : Value → World → Prop) : Prop :=
  rdC x0 fun l1a l1n l1c => ∃ k6 : Nat, F31_1 (fun y3_1 w3 => ∀ _g4 : Tm, rdI .i64 y3_1 fun n5 => br (n5 == 3) (K (.int .i64 0) w3) (K (.int .i64 n5) w3)) k6 (.slice l1a l1n l1c) (.int .i64 3) (.int .i64 0) w
theorem F31_step (x0 : Value) (w : World) (K : Value → World → Prop) : (F31 x0 w K) = rsh [(0, (.one .slc))] (args0 #[x0]) (fun t => vc Try.prog (orcOf [([0, 1, 0, 1, 1], F31_1O)]) [] F31_code (retQ Try.prog Try.f31 K) t w) := by kernel_rfl
theorem F31_ok {x0 : Value} {w : World} {K : Value → World → Prop} (h : F31 x0 w K) : Calls Try.prog 31 #[x0] w fun e w' => ∃ v, e = .returned v ∧ K v w' := by
  rw [F31_step] at h
  exact calls_of (c := F31_code) mixed Try.func31 rfl (nlt rfl) (vc_sound mixed (orcCons (π := [0, 1, 0, 1, 1]) F31_1_ok (orcNil F31_code)) F31_code [] rfl F31_code_ok _ _ _ (rsh_out h))

/-! cmp.isNaN[int] -/
noncomputable def F32_code : Code := Try.f32.body.getD .skip
theorem F32_code_ok : okC Try.prog Try.f32.ntmps F32_code = true := by kernel_rfl
def F32 (x0 : Value) (w : World) (K : Value → World → Prop) : Prop :=
  rdI .i64 x0 fun n1 => K (.bool (n1 != n1)) w
theorem F32_step (x0 : Value) (w : World) (K : Value → World → Prop) : (F32 x0 w K) = rsh [(0, (.one (.int .i64)))] (args0 #[x0]) (fun t => vc Try.prog (orcOf []) [] F32_code (retQ Try.prog Try.f32 K) t w) := by kernel_rfl
theorem F32_ok {x0 : Value} {w : World} {K : Value → World → Prop} (h : F32 x0 w K) : Calls Try.prog 32 #[x0] w fun e w' => ∃ v, e = .returned v ∧ K v w' := by
  rw [F32_step] at h
  exact calls_of (c := F32_code) mixed Try.func32 rfl (nlt rfl) (vc_sound mixed (orcNil F32_code) F32_code [] rfl F32_code_ok _ _ _ (rsh_out h))

/-! slices.pdqsortCmpFunc[int] -/
noncomputable def F33_code : Code := Try.f33.body.getD .skip
theorem F33_code_ok : okC Try.prog Try.f33.ntmps F33_code = true := by kernel_rfl
def F33_1C (Kn : Value → Value → Value → Value → Value → Value → Value → World → Prop) : Post := fun o t w => match o with | .normal => Kn (t 0) (t 1) (t 2) (t 3) (t 4) (t 10) (t 11) w | .exit i => (False) | .ret => False
def F33_1 (Kn : Value → Value → Value → Value → Value → Value → Value → World → Prop) (x0 : Value) (x1 : Value) (x2 : Value) (x3 : Value) (x4 : Value) (x12 : Value) (x13 : Value) (w : World) : Prop :=
  rdC x0 fun l1a l1n l1c => rdI .i64 x1 fun n2 => rdI .i64 x2 fun n3 => rdI .i64 x3 fun n4 => rdI .i64 x12 fun n5 => rdI .i64 x13 fun n6 => Calls Try.prog 42 #[(.slice l1a l1n l1c), (.int .i64 n2), (.int .i64 n3), (.int .i64 n6), x4] w fun e10 w9 => ∃ n7 b8, e10 = .returned (.tuple #[(.int .i64 n7), (.bool b8)]) ∧ (br (decide (((IntKind.wrap .i64 (n7 - n2)) : Int) < (IntKind.wrap .i64 (n3 - n7)))) (Calls Try.prog 33 #[(.slice l1a l1n l1c), (.int .i64 n2), (.int .i64 n7), (.int .i64 n4), x4] w9 fun e12 w11 => e12 = .returned (.tuple #[]) ∧ (Kn (.slice l1a l1n l1c) (.int .i64 (IntKind.wrap .i64 (n7 + 1))) (.int .i64 n3) (.int .i64 n4) x4 (.bool (decide (((IntKind.wrap .i64 (n7 - n2)) : Int) ≥ (IntKind.wrap .i64 (Int.tdiv n5 8))))) (.bool b8) w11)) (Calls Try.prog 33 #[(.slice l1a l1n l1c), (.int .i64 (IntKind.wrap .i64 (n7 + 1))), (.int .i64 n3), (.int .i64 n4), x4] w9 fun e14 w13 => e14 = .returned (.tuple #[]) ∧ (Kn (.slice l1a l1n l1c) (.int .i64 n2) (.int .i64 n7) (.int .i64 n4) x4 (.bool (decide (((IntKind.wrap .i64 (n3 - n7)) : Int) ≥ (IntKind.wrap .i64 (Int.tdiv n5 8))))) (.bool b8) w13)))
def F33_1O (Q : Post) (t : Tm) (w : World) : Prop := F33_1 (fun y0 y1 y2 y3 y4 y10 y11 w => ∀ g, rsh [(0, (.one .slc)), (1, (.one (.int .i64))), (2, (.one (.int .i64))), (3, (.one (.int .i64))), (10, (.one .bool)), (11, (.one .bool))] (upds g [(0, y0), (1, y1), (2, y2), (3, y3), (4, y4), (10, y10), (11, y11)]) fun t => Q .normal t w) (t 0) (t 1) (t 2) (t 3) (t 4) (t 12) (t 13) w
theorem F33_1_step (Kn : Value → Value → Value → Value → Value → Value → Value → World → Prop) (t : Tm) (w : World) : (F33_1 Kn (t 0) (t 1) (t 2) (t 3) (t 4) (t 12) (t 13) w) = rsh [(0, (.one .slc)), (1, (.one (.int .i64))), (2, (.one (.int .i64))), (3, (.one (.int .i64))), (12, (.one (.int .i64))), (13, (.one (.int .i64)))] t (fun t => vc Try.prog (orcOf []) [1, 1, 1, 1, 1, 1, 1, 1, 0, 0, 0, 1, 1] (getAt F33_code [1, 1, 1, 1, 1, 1, 1, 1, 0, 0, 0, 1, 1]) (F33_1C Kn) t w) := by kernel_rfl
theorem F33_1_ok : ∀ Q t w, F33_1O Q t w → W Try.prog Try.f33.ntmps (getAt F33_code [1, 1, 1, 1, 1, 1, 1, 1, 0, 0, 0, 1, 1]) Q t w := by
  intro Q t w h
  unfold F33_1O at h
  rw [F33_1_step] at h
  refine (vc_sound mixed (orcNil F33_code) _ _ rfl (okC_at F33_code_ok [1, 1, 1, 1, 1, 1, 1, 1, 0, 0, 0, 1, 1]) _ _ _ (rsh_out h)).mono ?_
  intro o t w q
  cases o with
  | normal => exact out_ok [0, 1, 2, 3, 4, 10, 11] q
  | exit i => exact q.elim
  | ret => exact q.elim
def F33_2C (K1 : Value → Value → Value → Value → Value → Value → Value → World → Prop) (Kn : Value → Value → Value → Value → Value → Value → Value → World → Prop) : Post := fun o t w => match o with | .normal => Kn (t 0) (t 1) (t 2) (t 3) (t 4) (t 10) (t 11) w | .exit i => (match Nat.beq i 1 with | true => K1 (t 0) (t 1) (t 2) (t 3) (t 4) (t 10) (t 11) w | false => False) | .ret => False
def F33_2 (K1 : Value → Value → Value → Value → Value → Value → Value → World → Prop) (Kn : Value → Value → Value → Value → Value → Value → Value → World → Prop) (x0 : Value) (x1 : Value) (x2 : Value) (x3 : Value) (x4 : Value) (x10 : Value) (x11 : Value) (x12 : Value) (x13 : Value) (w : World) : Prop :=
  rdC x0 fun l1a l1n l1c => rdI .i64 x1 fun n2 => rdI .i64 x2 fun n3 => rdI .i64 x3 fun n4 => rdB x10 fun b5 => rdB x11 fun b6 => rdI .i64 x12 fun n7 => rdI .i64 x13 fun n8 => drw w fun w9 => br (decide ((n2 : Int) > 0)) (ixS 1 l1a l1n (IntKind.wrap .i64 (n2 - 1)) fun a10 => ldI .i64 a10 w9 fun n11 => ixS 1 l1a l1n n8 fun a12 => ldI .i64 a12 w9 fun n13 => callV Try.prog x4 #[(.int .i64 n11), (.int .i64 n13)] w9 (.one (.one (.int .i64))) fun r16 w15 => ∃ n17, r16 = (.int .i64 n17) ∧ (br (!(decide ((n17 : Int) < 0))) (Calls Try.prog 41 #[(.slice l1a l1n l1c), (.int .i64 n2), (.int .i64 n3), (.int .i64 n8), x4] w15 fun e20 w19 => ∃ n18, e20 = .returned (.int .i64 n18) ∧ (K1 (.slice l1a l1n l1c) (.int .i64 n18) (.int .i64 n3) (.int .i64 n4) x4 (.bool b5) (.bool b6) w19)) (F33_1 (fun y0_20 y1_20 y2_20 y3_20 y4_20 y10_20 y11_20 w22 => ∀ _g23 : Tm, rdC y0_20 fun l24a l24n l24c => rdI .i64 y1_20 fun n25 => rdI .i64 y2_20 fun n26 => rdI .i64 y3_20 fun n27 => rdB y10_20 fun b28 => rdB y11_20 fun b29 => Kn (.slice l24a l24n l24c) (.int .i64 n25) (.int .i64 n26) (.int .i64 n27) y4_20 (.bool b28) (.bool b29) w22) (.slice l1a l1n l1c) (.int .i64 n2) (.int .i64 n3) (.int .i64 n4) x4 (.int .i64 n7) (.int .i64 n8) w15))) (F33_1 (fun y0_29 y1_29 y2_29 y3_29 y4_29 y10_29 y11_29 w31 => ∀ _g32 : Tm, rdC y0_29 fun l33a l33n l33c => rdI .i64 y1_29 fun n34 => rdI .i64 y2_29 fun n35 => rdI .i64 y3_29 fun n36 => rdB y10_29 fun b37 => rdB y11_29 fun b38 => Kn (.slice l33a l33n l33c) (.int .i64 n34) (.int .i64 n35) (.int .i64 n36) y4_29 (.bool b37) (.bool b38) w31) (.slice l1a l1n l1c) (.int .i64 n2) (.int .i64 n3) (.int .i64 n4) x4 (.int .i64 n7) (.int .i64 n8) w9)
def F33_2O (Q : Post) (t : Tm) (w : World) : Prop := F33_2 (fun y0 y1 y2 y3 y4 y10 y11 w => ∀ g, rsh [(0, (.one .slc)), (1, (.one (.int .i64))), (2, (.one (.int .i64))), (3, (.one (.int .i64))), (10, (.one .bool)), (11, (.one .bool))] (upds g [(0, y0), (1, y1), (2, y2), (3, y3), (4, y4), (10, y10), (11, y11)]) fun t => Q (.exit 1) t w) (fun y0 y1 y2 y3 y4 y10 y11 w => ∀ g, rsh [(0, (.one .slc)), (1, (.one (.int .i64))), (2, (.one (.int .i64))), (3, (.one (.int .i64))), (10, (.one .bool)), (11, (.one .bool))] (upds g [(0, y0), (1, y1), (2, y2), (3, y3), (4, y4), (10, y10), (11, y11)]) fun t => Q .normal t w) (t 0) (t 1) (t 2) (t 3) (t 4) (t 10) (t 11) (t 12) (t 13) w
theorem F33_2_step (K1 : Value → Value → Value → Value → Value → Value → Value → World → Prop) (Kn : Value → Value → Value → Value → Value → Value → Value → World → Prop) (t : Tm) (w : World) : (F33_2 K1 Kn (t 0) (t 1) (t 2) (t 3) (t 4) (t 10) (t 11) (t 12) (t 13) w) = rsh [(0, (.one .slc)), (1, (.one (.int .i64))), (2, (.one (.int .i64))), (3, (.one (.int .i64))), (10, (.one .bool)), (11, (.one .bool)), (12, (.one (.int .i64))), (13, (.one (.int .i64)))] t (fun t => vc Try.prog (orcOf [([1, 1, 1, 1, 1, 1, 1, 1, 0, 0, 0, 1, 1], F33_1O)]) [1, 1, 1, 1, 1, 1, 1, 0, 0, 0, 1, 1] (getAt F33_code [1, 1, 1, 1, 1, 1, 1, 0, 0, 0, 1, 1]) (F33_2C K1 Kn) t w) := by kernel_rfl
theorem F33_2_ok : ∀ Q t w, F33_2O Q t w → W Try.prog Try.f33.ntmps (getAt F33_code [1, 1, 1, 1, 1, 1, 1, 0, 0, 0, 1, 1]) Q t w := by
  intro Q t w h
  unfold F33_2O at h
  rw [F33_2_step] at h
  refine (vc_sound mixed (orcCons (π := [1, 1, 1, 1, 1, 1, 1, 1, 0, 0, 0, 1, 1]) F33_1_ok (orcNil F33_code)) _ _ rfl (okC_at F33_code_ok [1, 1, 1, 1, 1, 1, 1, 0, 0, 0, 1, 1]) _ _ _ (rsh_out h)).mono ?_
  intro o t w q
  cases o with
  | normal => exact out_ok [0, 1, 2, 3, 4, 10, 11] q
  | exit i =>
      unfold F33_2C at q
      simp only at q
      split at q
      · rename_i hi
        rw [nbeq] at hi
        subst hi
        exact out_ok [0, 1, 2, 3, 4, 10, 11] q
      · exact q.elim
  | ret => exact q.elim
def F33_3C (K1 : Value → Value → Value → Value → Value → Value → Value → World → Prop) (Kn : Value → Value → Value → Value → Value → Value → Value → World → Prop) (Kr : World → Prop) : Post := fun o t w => match o with | .normal => Kn (t 0) (t 1) (t 2) (t 3) (t 4) (t 10) (t 11) w | .exit i => (match Nat.beq i 1 with | true => K1 (t 0) (t 1) (t 2) (t 3) (t 4) (t 10) (t 11) w | false => False) | .ret => Kr  w
def F33_3 (K1 : Value → Value → Value → Value → Value → Value → Value → World → Prop) (Kn : Value → Value → Value → Value → Value → Value → Value → World → Prop) (Kr : World → Prop) (x0 : Value) (x1 : Value) (x2 : Value) (x3 : Value) (x4 : Value) (x10 : Value) (x11 : Value) (x12 : Value) (x13 : Value) (x14 : Value) (w : World) : Prop :=
  rdC x0 fun l1a l1n l1c => rdI .i64 x1 fun n2 => rdI .i64 x2 fun n3 => rdI .i64 x3 fun n4 => rdB x10 fun b5 => rdB x11 fun b6 => rdI .i64 x12 fun n7 => rdI .i64 x13 fun n8 => rdI .i64 x14 fun n9 => br b5 (br b6 (br (n9 == 1) (Calls Try.prog 40 #[(.slice l1a l1n l1c), (.int .i64 n2), (.int .i64 n3), x4] w fun e12 w11 => ∃ b10, e12 = .returned (.bool b10) ∧ (br b10 (Kr w11) (F33_2 (fun y0_12 y1_12 y2_12 y3_12 y4_12 y10_12 y11_12 w14 => ∀ _g15 : Tm, rdC y0_12 fun l16a l16n l16c => rdI .i64 y1_12 fun n17 => rdI .i64 y2_12 fun n18 => rdI .i64 y3_12 fun n19 => rdB y10_12 fun b20 => rdB y11_12 fun b21 => K1 (.slice l16a l16n l16c) (.int .i64 n17) (.int .i64 n18) (.int .i64 n19) y4_12 (.bool b20) (.bool b21) w14) (fun y0_21 y1_21 y2_21 y3_21 y4_21 y10_21 y11_21 w23 => ∀ _g24 : Tm, rdC y0_21 fun l25a l25n l25c => rdI .i64 y1_21 fun n26 => rdI .i64 y2_21 fun n27 => rdI .i64 y3_21 fun n28 => rdB y10_21 fun b29 => rdB y11_21 fun b30 => Kn (.slice l25a l25n l25c) (.int .i64 n26) (.int .i64 n27) (.int .i64 n28) y4_21 (.bool b29) (.bool b30) w23) (.slice l1a l1n l1c) (.int .i64 n2) (.int .i64 n3) (.int .i64 n4) x4 (.bool b5) (.bool b6) (.int .i64 n7) (.int .i64 n8) w11))) (F33_2 (fun y0_30 y1_30 y2_30 y3_30 y4_30 y10_30 y11_30 w32 => ∀ _g33 : Tm, rdC y0_30 fun l34a l34n l34c => rdI .i64 y1_30 fun n35 => rdI .i64 y2_30 fun n36 => rdI .i64 y3_30 fun n37 => rdB y10_30 fun b38 => rdB y11_30 fun b39 => K1 (.slice l34a l34n l34c) (.int .i64 n35) (.int .i64 n36) (.int .i64 n37) y4_30 (.bool b38) (.bool b39) w32) (fun y0_39 y1_39 y2_39 y3_39 y4_39 y10_39 y11_39 w41 => ∀ _g42 : Tm, rdC y0_39 fun l43a l43n l43c => rdI .i64 y1_39 fun n44 => rdI .i64 y2_39 fun n45 => rdI .i64 y3_39 fun n46 => rdB y10_39 fun b47 => rdB y11_39 fun b48 => Kn (.slice l43a l43n l43c) (.int .i64 n44) (.int .i64 n45) (.int .i64 n46) y4_39 (.bool b47) (.bool b48) w41) (.slice l1a l1n l1c) (.int .i64 n2) (.int .i64 n3) (.int .i64 n4) x4 (.bool b5) (.bool b6) (.int .i64 n7) (.int .i64 n8) w)) (F33_2 (fun y0_48 y1_48 y2_48 y3_48 y4_48 y10_48 y11_48 w50 => ∀ _g51 : Tm, rdC y0_48 fun l52a l52n l52c => rdI .i64 y1_48 fun n53 => rdI .i64 y2_48 fun n54 => rdI .i64 y3_48 fun n55 => rdB y10_48 fun b56 => rdB y11_48 fun b57 => K1 (.slice l52a l52n l52c) (.int .i64 n53) (.int .i64 n54) (.int .i64 n55) y4_48 (.bool b56) (.bool b57) w50) (fun y0_57 y1_57 y2_57 y3_57 y4_57 y10_57 y11_57 w59 => ∀ _g60 : Tm, rdC y0_57 fun l61a l61n l61c => rdI .i64 y1_57 fun n62 => rdI .i64 y2_57 fun n63 => rdI .i64 y3_57 fun n64 => rdB y10_57 fun b65 => rdB y11_57 fun b66 => Kn (.slice l61a l61n l61c) (.int .i64 n62) (.int .i64 n63) (.int .i64 n64) y4_57 (.bool b65) (.bool b66) w59) (.slice l1a l1n l1c) (.int .i64 n2) (.int .i64 n3) (.int .i64 n4) x4 (.bool b5) (.bool b6) (.int .i64 n7) (.int .i64 n8) w)) (F33_2 (fun y0_66 y1_66 y2_66 y3_66 y4_66 y10_66 y11_66 w68 => ∀ _g69 : Tm, rdC y0_66 fun l70a l70n l70c => rdI .i64 y1_66 fun n71 => rdI .i64 y2_66 fun n72 => rdI .i64 y3_66 fun n73 => rdB y10_66 fun b74 => rdB y11_66 fun b75 => K1 (.slice l70a l70n l70c) (.int .i64 n71) (.int .i64 n72) (.int .i64 n73) y4_66 (.bool b74) (.bool b75) w68) (fun y0_75 y1_75 y2_75 y3_75 y4_75 y10_75 y11_75 w77 => ∀ _g78 : Tm, rdC y0_75 fun l79a l79n l79c => rdI .i64 y1_75 fun n80 => rdI .i64 y2_75 fun n81 => rdI .i64 y3_75 fun n82 => rdB y10_75 fun b83 => rdB y11_75 fun b84 => Kn (.slice l79a l79n l79c) (.int .i64 n80) (.int .i64 n81) (.int .i64 n82) y4_75 (.bool b83) (.bool b84) w77) (.slice l1a l1n l1c) (.int .i64 n2) (.int .i64 n3) (.int .i64 n4) x4 (.bool b5) (.bool b6) (.int .i64 n7) (.int .i64 n8) w)
def F33_3O (Q : Post) (t : Tm) (w : World) : Prop := F33_3 (fun y0 y1 y2 y3 y4 y10 y11 w => ∀ g, rsh [(0, (.one .slc)), (1, (.one (.int .i64))), (2, (.one (.int .i64))), (3, (.one (.int .i64))), (10, (.one .bool)), (11, (.one .bool))] (upds g [(0, y0), (1, y1), (2, y2), (3, y3), (4, y4), (10, y10), (11, y11)]) fun t => Q (.exit 1) t w) (fun y0 y1 y2 y3 y4 y10 y11 w => ∀ g, rsh [(0, (.one .slc)), (1, (.one (.int .i64))), (2, (.one (.int .i64))), (3, (.one (.int .i64))), (10, (.one .bool)), (11, (.one .bool))] (upds g [(0, y0), (1, y1), (2, y2), (3, y3), (4, y4), (10, y10), (11, y11)]) fun t => Q .normal t w) (fun w => ∀ g, rsh [] (upds g []) fun t => Q .ret t w) (t 0) (t 1) (t 2) (t 3) (t 4) (t 10) (t 11) (t 12) (t 13) (t 14) w
theorem F33_3_step (K1 : Value → Value → Value → Value → Value → Value → Value → World → Prop) (Kn : Value → Value → Value → Value → Value → Value → Value → World → Prop) (Kr : World → Prop) (t : Tm) (w : World) : (F33_3 K1 Kn Kr (t 0) (t 1) (t 2) (t 3) (t 4) (t 10) (t 11) (t 12) (t 13) (t 14) w) = rsh [(0, (.one .slc)), (1, (.one (.int .i64))), (2, (.one (.int .i64))), (3, (.one (.int .i64))), (10, (.one .bool)), (11, (.one .bool)), (12, (.one (.int .i64))), (13, (.one (.int .i64))), (14, (.one (.int .i64)))] t (fun t => vc Try.prog (orcOf [([1, 1, 1, 1, 1, 1, 1, 1, 0, 0, 0, 1, 1], F33_1O), ([1, 1, 1, 1, 1, 1, 1, 0, 0, 0, 1, 1], F33_2O)]) [1, 1, 1, 1, 1, 1, 0, 0, 0, 1, 1] (getAt F33_code [1, 1, 1, 1, 1, 1, 0, 0, 0, 1, 1]) (F33_3C K1 Kn Kr) t w) := by kernel_rfl
theorem F33_3_ok : ∀ Q t w, F33_3O Q t w → W Try.prog Try.f33.ntmps (getAt F33_code [1, 1, 1, 1, 1, 1, 0, 0, 0, 1, 1]) Q t w := by
  intro Q t w h
  unfold F33_3O at h
  rw [F33_3_step] at h
  refine (vc_sound mixed (orcCons (π := [1, 1, 1, 1, 1, 1, 1, 1, 0, 0, 0, 1, 1]) F33_1_ok (orcCons (π := [1, 1, 1, 1, 1, 1, 1, 0, 0, 0, 1, 1]) F33_2_ok (orcNil F33_code))) _ _ rfl (okC_at F33_code_ok [1, 1, 1, 1, 1, 1, 0, 0, 0, 1, 1]) _ _ _ (rsh_out h)).mono ?_
  intro o t w q
  cases o with
  | normal => exact out_ok [0, 1, 2, 3, 4, 10, 11] q
  | exit i =>
      unfold F33_3C at q
      simp only at q
      split at q
      · rename_i hi
        rw [nbeq] at hi
        subst hi
        exact out_ok [0, 1, 2, 3, 4, 10, 11] q
      · exact q.elim
  | ret => exact out_ok [] q
def F33_4C (K1 : Value → Value → Value → Value → Value → Value → Value → World → Prop) (Kn : Value → Value → Value → Value → Value → Value → Value → World → Prop) (Kr : World → Prop) : Post := fun o t w => match o with | .normal => Kn (t 0) (t 1) (t 2) (t 3) (t 4) (t 10) (t 11) w | .exit i => (match Nat.beq i 1 with | true => K1 (t 0) (t 1) (t 2) (t 3) (t 4) (t 10) (t 11) w | false => False) | .ret => Kr  w
def F33_4 (K1 : Value → Value → Value → Value → Value → Value → Value → World → Prop) (Kn : Value → Value → Value → Value → Value → Value → Value → World → Prop) (Kr : World → Prop) (x0 : Value) (x1 : Value) (x2 : Value) (x3 : Value) (x4 : Value) (x10 : Value) (x11 : Value) (x12 : Value) (w : World) : Prop :=
  rdC x0 fun l1a l1n l1c => rdI .i64 x1 fun n2 => rdI .i64 x2 fun n3 => rdI .i64 x3 fun n4 => rdB x10 fun b5 => rdB x11 fun b6 => rdI .i64 x12 fun n7 => Calls Try.prog 38 #[(.slice l1a l1n l1c), (.int .i64 n2), (.int .i64 n3), x4] w fun e11 w10 => ∃ n8 n9, e11 = .returned (.tuple #[(.int .i64 n8), (.int .i64 n9)]) ∧ (br (n9 == 2) (Calls Try.prog 39 #[(.slice l1a l1n l1c), (.int .i64 n2), (.int .i64 n3), x4] w10 fun e13 w12 => e13 = .returned (.tuple #[]) ∧ (F33_3 (fun y0_13 y1_13 y2_13 y3_13 y4_13 y10_13 y11_13 w15 => ∀ _g16 : Tm, rdC y0_13 fun l17a l17n l17c => rdI .i64 y1_13 fun n18 => rdI .i64 y2_13 fun n19 => rdI .i64 y3_13 fun n20 => rdB y10_13 fun b21 => rdB y11_13 fun b22 => K1 (.slice l17a l17n l17c) (.int .i64 n18) (.int .i64 n19) (.int .i64 n20) y4_13 (.bool b21) (.bool b22) w15) (fun y0_22 y1_22 y2_22 y3_22 y4_22 y10_22 y11_22 w24 => ∀ _g25 : Tm, rdC y0_22 fun l26a l26n l26c => rdI .i64 y1_22 fun n27 => rdI .i64 y2_22 fun n28 => rdI .i64 y3_22 fun n29 => rdB y10_22 fun b30 => rdB y11_22 fun b31 => Kn (.slice l26a l26n l26c) (.int .i64 n27) (.int .i64 n28) (.int .i64 n29) y4_22 (.bool b30) (.bool b31) w24) (fun w33 => ∀ _g34 : Tm, Kr w33) (.slice l1a l1n l1c) (.int .i64 n2) (.int .i64 n3) (.int .i64 n4) x4 (.bool b5) (.bool b6) (.int .i64 n7) (.int .i64 (IntKind.wrap .i64 ((IntKind.wrap .i64 (n3 - 1)) - (IntKind.wrap .i64 (n8 - n2))))) (.int .i64 1) w12)) (F33_3 (fun y0_34 y1_34 y2_34 y3_34 y4_34 y10_34 y11_34 w36 => ∀ _g37 : Tm, rdC y0_34 fun l38a l38n l38c => rdI .i64 y1_34 fun n39 => rdI .i64 y2_34 fun n40 => rdI .i64 y3_34 fun n41 => rdB y10_34 fun b42 => rdB y11_34 fun b43 => K1 (.slice l38a l38n l38c) (.int .i64 n39) (.int .i64 n40) (.int .i64 n41) y4_34 (.bool b42) (.bool b43) w36) (fun y0_43 y1_43 y2_43 y3_43 y4_43 y10_43 y11_43 w45 => ∀ _g46 : Tm, rdC y0_43 fun l47a l47n l47c => rdI .i64 y1_43 fun n48 => rdI .i64 y2_43 fun n49 => rdI .i64 y3_43 fun n50 => rdB y10_43 fun b51 => rdB y11_43 fun b52 => Kn (.slice l47a l47n l47c) (.int .i64 n48) (.int .i64 n49) (.int .i64 n50) y4_43 (.bool b51) (.bool b52) w45) (fun w54 => ∀ _g55 : Tm, Kr w54) (.slice l1a l1n l1c) (.int .i64 n2) (.int .i64 n3) (.int .i64 n4) x4 (.bool b5) (.bool b6) (.int .i64 n7) (.int .i64 n8) (.int .i64 n9) w10))
def F33_4O (Q : Post) (t : Tm) (w : World) : Prop := F33_4 (fun y0 y1 y2 y3 y4 y10 y11 w => ∀ g, rsh [(0, (.one .slc)), (1, (.one (.int .i64))), (2, (.one (.int .i64))), (3, (.one (.int .i64))), (10, (.one .bool)), (11, (.one .bool))] (upds g [(0, y0), (1, y1), (2, y2), (3, y3), (4, y4), (10, y10), (11, y11)]) fun t => Q (.exit 1) t w) (fun y0 y1 y2 y3 y4 y10 y11 w => ∀ g, rsh [(0, (.one .slc)), (1, (.one (.int .i64))), (2, (.one (.int .i64))), (3, (.one (.int .i64))), (10, (.one .bool)), (11, (.one .bool))] (upds g [(0, y0), (1, y1), (2, y2), (3, y3), (4, y4), (10, y10), (11, y11)]) fun t => Q .normal t w) (fun w => ∀ g, rsh [] (upds g []) fun t => Q .ret t w) (t 0) (t 1) (t 2) (t 3) (t 4) (t 10) (t 11) (t 12) w
theorem F33_4_step (K1 : Value → Value → Value → Value → Value → Value → Value → World → Prop) (Kn : Value → Value → Value → Value → Value → Value → Value → World → Prop) (Kr : World → Prop) (t : Tm) (w : World) : (F33_4 K1 Kn Kr (t 0) (t 1) (t 2) (t 3) (t 4) (t 10) (t 11) (t 12) w) = rsh [(0, (.one .slc)), (1, (.one (.int .i64))), (2, (.one (.int .i64))), (3, (.one (.int .i64))), (10, (.one .bool)), (11, (.one .bool)), (12, (.one (.int .i64)))] t (fun t => vc Try.prog (orcOf [([1, 1, 1, 1, 1, 1, 1, 1, 0, 0, 0, 1, 1], F33_1O), ([1, 1, 1, 1, 1, 1, 1, 0, 0, 0, 1, 1], F33_2O), ([1, 1, 1, 1, 1, 1, 0, 0, 0, 1, 1], F33_3O)]) [1, 1, 1, 1, 0, 0, 0, 1, 1] (getAt F33_code [1, 1, 1, 1, 0, 0, 0, 1, 1]) (F33_4C K1 Kn Kr) t w) := by kernel_rfl
theorem F33_4_ok : ∀ Q t w, F33_4O Q t w → W Try.prog Try.f33.ntmps (getAt F33_code [1, 1, 1, 1, 0, 0, 0, 1, 1]) Q t w := by
  intro Q t w h
  unfold F33_4O at h
  rw [F33_4_step] at h
  refine (vc_sound mixed (orcCons (π := [1, 1, 1, 1, 1, 1, 1, 1, 0, 0, 0, 1, 1]) F33_1_ok (orcCons (π := [1, 1, 1, 1, 1, 1, 1, 0, 0, 0, 1, 1]) F33_2_ok (orcCons (π := [1, 1, 1, 1, 1, 1, 0, 0, 0, 1, 1]) F33_3_ok (orcNil F33_code)))) _ _ rfl (okC_at F33_code_ok [1, 1, 1, 1, 0, 0, 0, 1, 1]) _ _ _ (rsh_out h)).mono ?_
  intro o t w q
  cases o with
  | normal => exact out_ok [0, 1, 2, 3, 4, 10, 11] q
  | exit i =>
      unfold F33_4C at q
      simp only at q
      split at q
      · rename_i hi
        rw [nbeq] at hi
        subst hi
        exact out_ok [0, 1, 2, 3, 4, 10, 11] q
      · exact q.elim
  | ret => exact out_ok [] q
def F33_5C (Kr : World → Prop) : Post := fun o t w => match o with | .normal => False | .exit i => (False) | .ret => Kr  w
def F33_5B (R : Value → Value → Value → Value → Value → Value → Value → World → Prop) (Kr : World → Prop) (x0 : Value) (x1 : Value) (x2 : Value) (x3 : Value) (x4 : Value) (x10 : Value) (x11 : Value) (w : World) : Prop :=
  rdC x0 fun l1a l1n l1c => rdI .i64 x1 fun n2 => rdI .i64 x2 fun n3 => rdI .i64 x3 fun n4 => rdB x10 fun b5 => rdB x11 fun b6 => br (decide (((IntKind.wrap .i64 (n3 - n2)) : Int) ≤ 12)) (Calls Try.prog 35 #[(.slice l1a l1n l1c), (.int .i64 n2), (.int .i64 n3), x4] w fun e8 w7 => e8 = .returned (.tuple #[]) ∧ (Kr w7)) (br (n4 == 0) (Calls Try.prog 36 #[(.slice l1a l1n l1c), (.int .i64 n2), (.int .i64 n3), x4] w fun e10 w9 => e10 = .returned (.tuple #[]) ∧ (Kr w9)) (br (!b5) (Calls Try.prog 37 #[(.slice l1a l1n l1c), (.int .i64 n2), (.int .i64 n3), x4] w fun e12 w11 => e12 = .returned (.tuple #[]) ∧ (F33_4 (fun y0_12 y1_12 y2_12 y3_12 y4_12 y10_12 y11_12 w14 => ∀ _g15 : Tm, rdC y0_12 fun l16a l16n l16c => rdI .i64 y1_12 fun n17 => rdI .i64 y2_12 fun n18 => rdI .i64 y3_12 fun n19 => rdB y10_12 fun b20 => rdB y11_12 fun b21 => R (.slice l16a l16n l16c) (.int .i64 n17) (.int .i64 n18) (.int .i64 n19) y4_12 (.bool b20) (.bool b21) w14) (fun y0_21 y1_21 y2_21 y3_21 y4_21 y10_21 y11_21 w23 => ∀ _g24 : Tm, rdC y0_21 fun l25a l25n l25c => rdI .i64 y1_21 fun n26 => rdI .i64 y2_21 fun n27 => rdI .i64 y3_21 fun n28 => rdB y10_21 fun b29 => rdB y11_21 fun b30 => R (.slice l25a l25n l25c) (.int .i64 n26) (.int .i64 n27) (.int .i64 n28) y4_21 (.bool b29) (.bool b30) w23) (fun w32 => ∀ _g33 : Tm, Kr w32) (.slice l1a l1n l1c) (.int .i64 n2) (.int .i64 n3) (.int .i64 (IntKind.wrap .i64 (n4 - 1))) x4 (.bool b5) (.bool b6) (.int .i64 (IntKind.wrap .i64 (n3 - n2))) w11)) (F33_4 (fun y0_33 y1_33 y2_33 y3_33 y4_33 y10_33 y11_33 w35 => ∀ _g36 : Tm, rdC y0_33 fun l37a l37n l37c => rdI .i64 y1_33 fun n38 => rdI .i64 y2_33 fun n39 => rdI .i64 y3_33 fun n40 => rdB y10_33 fun b41 => rdB y11_33 fun b42 => R (.slice l37a l37n l37c) (.int .i64 n38) (.int .i64 n39) (.int .i64 n40) y4_33 (.bool b41) (.bool b42) w35) (fun y0_42 y1_42 y2_42 y3_42 y4_42 y10_42 y11_42 w44 => ∀ _g45 : Tm, rdC y0_42 fun l46a l46n l46c => rdI .i64 y1_42 fun n47 => rdI .i64 y2_42 fun n48 => rdI .i64 y3_42 fun n49 => rdB y10_42 fun b50 => rdB y11_42 fun b51 => R (.slice l46a l46n l46c) (.int .i64 n47) (.int .i64 n48) (.int .i64 n49) y4_42 (.bool b50) (.bool b51) w44) (fun w53 => ∀ _g54 : Tm, Kr w53) (.slice l1a l1n l1c) (.int .i64 n2) (.int .i64 n3) (.int .i64 n4) x4 (.bool b5) (.bool b6) (.int .i64 (IntKind.wrap .i64 (n3 - n2))) w)))
def F33_5 (Kr : World → Prop) : Nat → Value → Value → Value → Value → Value → Value → Value → World → Prop
  | 0 => fun _ _ _ _ _ _ _ _ => False
  | n + 1 => F33_5B (F33_5 Kr n) Kr
def F33_5O (Q : Post) (t : Tm) (w : World) : Prop := ∃ n, F33_5 (fun w => ∀ g, rsh [] (upds g []) fun t => Q .ret t w) n (t 0) (t 1) (t 2) (t 3) (t 4) (t 10) (t 11) w
theorem F33_5_step (Kr : World → Prop) (n : Nat) (t : Tm) (w : World) : (F33_5 Kr (n + 1) (t 0) (t 1) (t 2) (t 3) (t 4) (t 10) (t 11) w) = rsh [(0, (.one .slc)), (1, (.one (.int .i64))), (2, (.one (.int .i64))), (3, (.one (.int .i64))), (10, (.one .bool)), (11, (.one .bool))] t (fun t => vc Try.prog (orcOf [([1, 1, 1, 1, 1, 1, 1, 1, 0, 0, 0, 1, 1], F33_1O), ([1, 1, 1, 1, 1, 1, 1, 0, 0, 0, 1, 1], F33_2O), ([1, 1, 1, 1, 1, 1, 0, 0, 0, 1, 1], F33_3O), ([1, 1, 1, 1, 0, 0, 0, 1, 1], F33_4O)]) [0, 0, 1, 1] (getAt F33_code [0, 0, 1, 1]) (fun o t w => match o with | .normal => F33_5 Kr n (t 0) (t 1) (t 2) (t 3) (t 4) (t 10) (t 11) w | .exit i => F33_5C Kr (.exit i) t w | .ret => F33_5C Kr .ret t w) t w) := by kernel_rfl
theorem F33_5_ok : ∀ Q t w, F33_5O Q t w → W Try.prog Try.f33.ntmps (getAt F33_code [0, 1, 1]) Q t w := by
  intro Q t w ⟨n, h⟩
  refine (W_loop (P := Try.prog) (b := getAt F33_code [0, 0, 1, 1]) (Q := F33_5C (fun w => ∀ g, rsh [] (upds g []) fun t => Q .ret t w)) (G := fun n t w => F33_5 (fun w => ∀ g, rsh [] (upds g []) fun t => Q .ret t w) n (t 0) (t 1) (t 2) (t 3) (t 4) (t 10) (t 11) w) (fun _ _ h => h) (fun n t w h => ?_) n t w h).mono ?_
  · rw [F33_5_step] at h
    exact vc_sound mixed (orcCons (π := [1, 1, 1, 1, 1, 1, 1, 1, 0, 0, 0, 1, 1]) F33_1_ok (orcCons (π := [1, 1, 1, 1, 1, 1, 1, 0, 0, 0, 1, 1]) F33_2_ok (orcCons (π := [1, 1, 1, 1, 1, 1, 0, 0, 0, 1, 1]) F33_3_ok (orcCons (π := [1, 1, 1, 1, 0, 0, 0, 1, 1]) F33_4_ok (orcNil F33_code))))) _ _ rfl (okC_at F33_code_ok [0, 0, 1, 1]) _ _ _ (rsh_out h)
  · intro o t w q
    cases o with
    | normal => exact q.elim
    | exit i => exact q.elim
    | ret => exact out_ok [] q
def F33 (x0 : Value) (x1 : Value) (x2 : Value) (x3 : Value) (x4 : Value) (w : World) (K : Value → World → Prop) : Prop :=
  rdC x0 fun l1a l1n l1c => rdI .i64 x1 fun n2 => rdI .i64 x2 fun n3 => rdI .i64 x3 fun n4 => ∃ k8 : Nat, F33_5 (fun w6 => ∀ _g7 : Tm, K (.tuple #[]) w6) k8 (.slice l1a l1n l1c) (.int .i64 n2) (.int .i64 n3) (.int .i64 n4) x4 (.bool true) (.bool true) w
theorem F33_step (x0 : Value) (x1 : Value) (x2 : Value) (x3 : Value) (x4 : Value) (w : World) (K : Value → World → Prop) : (F33 x0 x1 x2 x3 x4 w K) = rsh [(0, (.one .slc)), (1, (.one (.int .i64))), (2, (.one (.int .i64))), (3, (.one (.int .i64)))] (args0 #[x0, x1, x2, x3, x4]) (fun t => vc Try.prog (orcOf [([1, 1, 1, 1, 1, 1, 1, 1, 0, 0, 0, 1, 1], F33_1O), ([1, 1, 1, 1, 1, 1, 1, 0, 0, 0, 1, 1], F33_2O), ([1, 1, 1, 1, 1, 1, 0, 0, 0, 1, 1], F33_3O), ([1, 1, 1, 1, 0, 0, 0, 1, 1], F33_4O), ([0, 1, 1], F33_5O)]) [] F33_code (retQ Try.prog Try.f33 K) t w) := by kernel_rfl
theorem F33_ok {x0 x1 x2 x3 x4 : Value} {w : World} {K : Value → World → Prop} (h : F33 x0 x1 x2 x3 x4 w K) : Calls Try.prog 33 #[x0, x1, x2, x3, x4] w fun e w' => ∃ v, e = .returned v ∧ K v w' := by
  rw [F33_step] at h
  exact calls_of (c := F33_code) mixed Try.func33 rfl (nlt rfl) (vc_sound mixed (orcCons (π := [1, 1, 1, 1, 1, 1, 1, 1, 0, 0, 0, 1, 1]) F33_1_ok (orcCons (π := [1, 1, 1, 1, 1, 1, 1, 0, 0, 0, 1, 1]) F33_2_ok (orcCons (π := [1, 1, 1, 1, 1, 1, 0, 0, 0, 1, 1]) F33_3_ok (orcCons (π := [1, 1, 1, 1, 0, 0, 0, 1, 1]) F33_4_ok (orcCons (π := [0, 1, 1]) F33_5_ok (orcNil F33_code)))))) F33_code [] rfl F33_code_ok _ _ _ (rsh_out h))

/-! math/bits.Len -/
noncomputable def F34_code : Code := Try.f34.body.getD .skip
theorem F34_code_ok : okC Try.prog Try.f34.ntmps F34_code = true := by kernel_rfl
def F34 (x0 : Value) (w : World) (K : Value → World → Prop) : Prop :=
  rdI .u64 x0 fun n1 => Calls Try.prog 44 #[(.int .u64 n1)] w fun e4 w3 => ∃ n2, e4 = .returned (.int .i64 n2) ∧ (K (.int .i64 n2) w3)
theorem F34_step (x0 : Value) (w : World) (K : Value → World → Prop) : (F34 x0 w K) = rsh [(0, (.one (.int .u64)))] (args0 #[x0]) (fun t => vc Try.prog (orcOf []) [] F34_code (retQ Try.prog Try.f34 K) t w) := by kernel_rfl
theorem F34_ok {x0 : Value} {w : World} {K : Value → World → Prop} (h : F34 x0 w K) : Calls Try.prog 34 #[x0] w fun e w' => ∃ v, e = .returned v ∧ K v w' := by
  rw [F34_step] at h
  exact calls_of (c := F34_code) mixed Try.func34 rfl (nlt rfl) (vc_sound mixed (orcNil F34_code) F34_code [] rfl F34_code_ok _ _ _ (rsh_out h))

/-! slices.insertionSortCmpFunc[int] -/
noncomputable def F35_code : Code := Try.f35.body.getD .skip
theorem F35_code_ok : okC Try.prog Try.f35.ntmps F35_code = true := by kernel_rfl
def F35_1C (Kn : Value → Value → Value → Value → Value → Value → World → Prop) : Post := fun o t w => match o with | .normal => Kn (t 0) (t 1) (t 2) (t 3) (t 8) (t 9) w | .exit i => (False) | .ret => False
def F35_1 (Kn : Value → Value → Value → Value → Value → Value → World → Prop) (x0 : Value) (x1 : Value) (x2 : Value) (x3 : Value) (x8 : Value) (x9 : Value) (w : World) : Prop :=
  rdC x0 fun l1a l1n l1c => rdI .i64 x1 fun n2 => rdI .i64 x2 fun n3 => rdI .i64 x8 fun n4 => rdI .i64 x9 fun n5 => drw w fun w6 => ixS 1 l1a l1n (IntKind.wrap .i64 (n5 - 1)) fun a7 => ldI .i64 a7 w6 fun n8 => ixS 1 l1a l1n n5 fun a9 => ldI .i64 a9 w6 fun n10 => ixS 1 l1a l1n n5 fun a11 => stc a11 (.int .i64 n8) w6 fun w12 => ixS 1 l1a l1n (IntKind.wrap .i64 (n5 - 1)) fun a13 => stc a13 (.int .i64 n10) w12 fun w14 => Kn (.slice l1a l1n l1c) (.int .i64 n2) (.int .i64 n3) x3 (.int .i64 n4) (.int .i64 (IntKind.wrap .i64 (n5 - 1))) w14
def F35_1O (Q : Post) (t : Tm) (w : World) : Prop := F35_1 (fun y0 y1 y2 y3 y8 y9 w => ∀ g, rsh [(0, (.one .slc)), (1, (.one (.int .i64))), (2, (.one (.int .i64))), (8, (.one (.int .i64))), (9, (.one (.int .i64)))] (upds g [(0, y0), (1, y1), (2, y2), (3, y3), (8, y8), (9, y9)]) fun t => Q .normal t w) (t 0) (t 1) (t 2) (t 3) (t 8) (t 9) w
theorem F35_1_step (Kn : Value → Value → Value → Value → Value → Value → World → Prop) (t : Tm) (w : World) : (F35_1 Kn (t 0) (t 1) (t 2) (t 3) (t 8) (t 9) w) = rsh [(0, (.one .slc)), (1, (.one (.int .i64))), (2, (.one (.int .i64))), (8, (.one (.int .i64))), (9, (.one (.int .i64)))] t (fun t => vc Try.prog (orcOf []) [1, 0, 0, 1, 0, 0, 1, 0, 0, 1] (getAt F35_code [1, 0, 0, 1, 0, 0, 1, 0, 0, 1]) (F35_1C Kn) t w) := by kernel_rfl
theorem F35_1_ok : ∀ Q t w, F35_1O Q t w → W Try.prog Try.f35.ntmps (getAt F35_code [1, 0, 0, 1, 0, 0, 1, 0, 0, 1]) Q t w := by
  intro Q t w h
  unfold F35_1O at h
  rw [F35_1_step] at h
  refine (vc_sound mixed (orcNil F35_code) _ _ rfl (okC_at F35_code_ok [1, 0, 0, 1, 0, 0, 1, 0, 0, 1]) _ _ _ (rsh_out h)).mono ?_
  intro o t w q
  cases o with
  | normal => exact out_ok [0, 1, 2, 3, 8, 9] q
  | exit i => exact q.elim
  | ret => exact q.elim
def F35_2C (K2 : Value → Value → Value → Value → Value → World → Prop) : Post := fun o t w => match o with | .normal => False | .exit i => (match Nat.beq i 2 with | true => K2 (t 0) (t 1) (t 2) (t 3) (t 8) w | false => False) | .ret => False
def F35_2B (R : Value → Value → Value → Value → Value → Value → World → Prop) (K2 : Value → Value → Value → Value → Value → World → Prop) (x0 : Value) (x1 : Value) (x2 : Value) (x3 : Value) (x8 : Value) (x9 : Value) (w : World) : Prop :=
  rdC x0 fun l1a l1n l1c => rdI .i64 x1 fun n2 => rdI .i64 x2 fun n3 => rdI .i64 x8 fun n4 => rdI .i64 x9 fun n5 => drw w fun w6 => br (decide ((n5 : Int) > n2)) (ixS 1 l1a l1n n5 fun a7 => ldI .i64 a7 w6 fun n8 => ixS 1 l1a l1n (IntKind.wrap .i64 (n5 - 1)) fun a9 => ldI .i64 a9 w6 fun n10 => callV Try.prog x3 #[(.int .i64 n8), (.int .i64 n10)] w6 (.one (.one (.int .i64))) fun r13 w12 => ∃ n14, r13 = (.int .i64 n14) ∧ (br (decide ((n14 : Int) < 0)) (F35_1 (fun y0_14 y1_14 y2_14 y3_14 y8_14 y9_14 w16 => ∀ _g17 : Tm, rdC y0_14 fun l18a l18n l18c => rdI .i64 y1_14 fun n19 => rdI .i64 y2_14 fun n20 => rdI .i64 y8_14 fun n21 => rdI .i64 y9_14 fun n22 => R (.slice l18a l18n l18c) (.int .i64 n19) (.int .i64 n20) y3_14 (.int .i64 n21) (.int .i64 n22) w16) (.slice l1a l1n l1c) (.int .i64 n2) (.int .i64 n3) x3 (.int .i64 n4) (.int .i64 n5) w12) (K2 (.slice l1a l1n l1c) (.int .i64 n2) (.int .i64 n3) x3 (.int .i64 n4) w12))) (K2 (.slice l1a l1n l1c) (.int .i64 n2) (.int .i64 n3) x3 (.int .i64 n4) w6)
def F35_2 (K2 : Value → Value → Value → Value → Value → World → Prop) : Nat → Value → Value → Value → Value → Value → Value → World → Prop
  | 0 => fun _ _ _ _ _ _ _ => False
  | n + 1 => F35_2B (F35_2 K2 n) K2
def F35_2O (Q : Post) (t : Tm) (w : World) : Prop := ∃ n, F35_2 (fun y0 y1 y2 y3 y8 w => ∀ g, rsh [(0, (.one .slc)), (1, (.one (.int .i64))), (2, (.one (.int .i64))), (8, (.one (.int .i64)))] (upds g [(0, y0), (1, y1), (2, y2), (3, y3), (8, y8)]) fun t => Q (.exit 2) t w) n (t 0) (t 1) (t 2) (t 3) (t 8) (t 9) w
theorem F35_2_step (K2 : Value → Value → Value → Value → Value → World → Prop) (n : Nat) (t : Tm) (w : World) : (F35_2 K2 (n + 1) (t 0) (t 1) (t 2) (t 3) (t 8) (t 9) w) = rsh [(0, (.one .slc)), (1, (.one (.int .i64))), (2, (.one (.int .i64))), (8, (.one (.int .i64))), (9, (.one (.int .i64)))] t (fun t => vc Try.prog (orcOf [([1, 0, 0, 1, 0, 0, 1, 0, 0, 1], F35_1O)]) [0, 0, 1, 0, 0, 1, 0, 0, 1] (getAt F35_code [0, 0, 1, 0, 0, 1, 0, 0, 1]) (fun o t w => match o with | .normal => F35_2 K2 n (t 0) (t 1) (t 2) (t 3) (t 8) (t 9) w | .exit i => F35_2C K2 (.exit i) t w | .ret => F35_2C K2 .ret t w) t w) := by kernel_rfl
theorem F35_2_ok : ∀ Q t w, F35_2O Q t w → W Try.prog Try.f35.ntmps (getAt F35_code [0, 1, 0, 0, 1, 0, 0, 1]) Q t w := by
  intro Q t w ⟨n, h⟩
  refine (W_loop (P := Try.prog) (b := getAt F35_code [0, 0, 1, 0, 0, 1, 0, 0, 1]) (Q := F35_2C (fun y0 y1 y2 y3 y8 w => ∀ g, rsh [(0, (.one .slc)), (1, (.one (.int .i64))), (2, (.one (.int .i64))), (8, (.one (.int .i64)))] (upds g [(0, y0), (1, y1), (2, y2), (3, y3), (8, y8)]) fun t => Q (.exit 2) t w)) (G := fun n t w => F35_2 (fun y0 y1 y2 y3 y8 w => ∀ g, rsh [(0, (.one .slc)), (1, (.one (.int .i64))), (2, (.one (.int .i64))), (8, (.one (.int .i64)))] (upds g [(0, y0), (1, y1), (2, y2), (3, y3), (8, y8)]) fun t => Q (.exit 2) t w) n (t 0) (t 1) (t 2) (t 3) (t 8) (t 9) w) (fun _ _ h => h) (fun n t w h => ?_) n t w h).mono ?_
  · rw [F35_2_step] at h
    exact vc_sound mixed (orcCons (π := [1, 0, 0, 1, 0, 0, 1, 0, 0, 1]) F35_1_ok (orcNil F35_code)) _ _ rfl (okC_at F35_code_ok [0, 0, 1, 0, 0, 1, 0, 0, 1]) _ _ _ (rsh_out h)
  · intro o t w q
    cases o with
    | normal => exact q.elim
    | exit i =>
      unfold F35_2C at q
      simp only at q
      split at q
      · rename_i hi
        rw [nbeq] at hi
        subst hi
        exact out_ok [0, 1, 2, 3, 8] q
      · exact q.elim
    | ret => exact q.elim
def F35_3C (K0 : World → Prop) : Post := fun o t w => match o with | .normal => False | .exit i => (match Nat.beq i 0 with | true => K0  w | false => False) | .ret => False
def F35_3B (R : Value → Value → Value → Value → Value → World → Prop) (K0 : World → Prop) (x0 : Value) (x1 : Value) (x2 : Value) (x3 : Value) (x8 : Value) (w : World) : Prop :=
  rdC x0 fun l1a l1n l1c => rdI .i64 x1 fun n2 => rdI .i64 x2 fun n3 => rdI .i64 x8 fun n4 => br (decide ((n4 : Int) < n3)) (∃ k12 : Nat, F35_2 (fun y0_4 y1_4 y2_4 y3_4 y8_4 w6 => ∀ _g7 : Tm, rdC y0_4 fun l8a l8n l8c => rdI .i64 y1_4 fun n9 => rdI .i64 y2_4 fun n10 => rdI .i64 y8_4 fun n11 => R (.slice l8a l8n l8c) (.int .i64 n9) (.int .i64 n10) y3_4 (.int .i64 (IntKind.wrap .i64 (n11 + 1))) w6) k12 (.slice l1a l1n l1c) (.int .i64 n2) (.int .i64 n3) x3 (.int .i64 n4) (.int .i64 n4) w) (K0 w)
def F35_3 (K0 : World → Prop) : Nat → Value → Value → Value → Value → Value → World → Prop
  | 0 => fun _ _ _ _ _ _ => False
  | n + 1 => F35_3B (F35_3 K0 n) K0
def F35_3O (Q : Post) (t : Tm) (w : World) : Prop := ∃ n, F35_3 (fun w => ∀ g, rsh [] (upds g []) fun t => Q (.exit 0) t w) n (t 0) (t 1) (t 2) (t 3) (t 8) w
theorem F35_3_step (K0 : World → Prop) (n : Nat) (t : Tm) (w : World) : (F35_3 K0 (n + 1) (t 0) (t 1) (t 2) (t 3) (t 8) w) = rsh [(0, (.one .slc)), (1, (.one (.int .i64))), (2, (.one (.int .i64))), (8, (.one (.int .i64)))] t (fun t => vc Try.prog (orcOf [([1, 0, 0, 1, 0, 0, 1, 0, 0, 1], F35_1O), ([0, 1, 0, 0, 1, 0, 0, 1], F35_2O)]) [0, 0, 1] (getAt F35_code [0, 0, 1]) (fun o t w => match o with | .normal => F35_3 K0 n (t 0) (t 1) (t 2) (t 3) (t 8) w | .exit i => F35_3C K0 (.exit i) t w | .ret => F35_3C K0 .ret t w) t w) := by kernel_rfl
theorem F35_3_ok : ∀ Q t w, F35_3O Q t w → W Try.prog Try.f35.ntmps (getAt F35_code [0, 1]) Q t w := by
  intro Q t w ⟨n, h⟩
  refine (W_loop (P := Try.prog) (b := getAt F35_code [0, 0, 1]) (Q := F35_3C (fun w => ∀ g, rsh [] (upds g []) fun t => Q (.exit 0) t w)) (G := fun n t w => F35_3 (fun w => ∀ g, rsh [] (upds g []) fun t => Q (.exit 0) t w) n (t 0) (t 1) (t 2) (t 3) (t 8) w) (fun _ _ h => h) (fun n t w h => ?_) n t w h).mono ?_
  · rw [F35_3_step] at h
    exact vc_sound mixed (orcCons (π := [1, 0, 0, 1, 0, 0, 1, 0, 0, 1]) F35_1_ok (orcCons (π := [0, 1, 0, 0, 1, 0, 0, 1]) F35_2_ok (orcNil F35_code))) _ _ rfl (okC_at F35_code_ok [0, 0, 1]) _ _ _ (rsh_out h)
  · intro o t w q
    cases o with
    | normal => exact q.elim
    | exit i =>
      unfold F35_3C at q
      simp only at q
      split at q
      · rename_i hi
        rw [nbeq] at hi
        subst hi
        exact out_ok [] q
      · exact q.elim
    | ret => exact q.elim
def F35 (x0 : Value) (x1 : Value) (x2 : Value) (x3 : Value) (w : World) (K : Value → World → Prop) : Prop :=
  rdC x0 fun l1a l1n l1c => rdI .i64 x1 fun n2 => rdI .i64 x2 fun n3 => ∃ k7 : Nat, F35_3 (fun w5 => ∀ _g6 : Tm, K (.tuple #[]) w5) k7 (.slice l1a l1n l1c) (.int .i64 n2) (.int .i64 n3) x3 (.int .i64 (IntKind.wrap .i64 (n2 + 1))) w
theorem F35_step (x0 : Value) (x1 : Value) (x2 : Value) (x3 : Value) (w : World) (K : Value → World → Prop) : (F35 x0 x1 x2 x3 w K) = rsh [(0, (.one .slc)), (1, (.one (.int .i64))), (2, (.one (.int .i64)))] (args0 #[x0, x1, x2, x3]) (fun t => vc Try.prog (orcOf [([1, 0, 0, 1, 0, 0, 1, 0, 0, 1], F35_1O), ([0, 1, 0, 0, 1, 0, 0, 1], F35_2O), ([0, 1], F35_3O)]) [] F35_code (retQ Try.prog Try.f35 K) t w) := by kernel_rfl
theorem F35_ok {x0 x1 x2 x3 : Value} {w : World} {K : Value → World → Prop} (h : F35 x0 x1 x2 x3 w K) : Calls Try.prog 35 #[x0, x1, x2, x3] w fun e w' => ∃ v, e = .returned v ∧ K v w' := by
  rw [F35_step] at h
  exact calls_of (c := F35_code) mixed Try.func35 rfl (nlt rfl) (vc_sound mixed (orcCons (π := [1, 0, 0, 1, 0, 0, 1, 0, 0, 1]) F35_1_ok (orcCons (π := [0, 1, 0, 0, 1, 0, 0, 1]) F35_2_ok (orcCons (π := [0, 1]) F35_3_ok (orcNil F35_code)))) F35_code [] rfl F35_code_ok _ _ _ (rsh_out h))

/-! math/bits.Len32 -/
noncomputable def F43_code : Code := Try.f43.body.getD .skip
theorem F43_code_ok : okC Try.prog Try.f43.ntmps F43_code = true := by kernel_rfl
def F43_1C (Kr : Value → World → Prop) : Post := fun o t w => match o with | .normal => False | .exit i => (False) | .ret => Kr (t 2) w
def F43_1 (Kr : Value → World → Prop) (x0 : Value) (x2 : Value) (w : World) : Prop :=
  rdI .u32 x0 fun n1 => rdI .i64 x2 fun n2 => ixT ⟨#[0, 1, 2, 2, 3, 3, 3, 3, 4, 4, 4, 4, 4, 4, 4, 4, 5, 5, 5, 5, 5, 5, 5, 5, 5, 5, 5, 5, 5, 5, 5, 5, 6, 6, 6, 6, 6, 6, 6, 6, 6, 6, 6, 6, 6, 6, 6, 6, 6, 6, 6, 6, 6, 6, 6, 6, 6, 6, 6, 6, 6, 6, 6, 6, 7, 7, 7, 7, 7, 7, 7, 7, 7, 7, 7, 7, 7, 7, 7, 7, 7, 7, 7, 7, 7, 7, 7, 7, 7, 7, 7, 7, 7, 7, 7, 7, 7, 7, 7, 7, 7, 7, 7, 7, 7, 7, 7, 7, 7, 7, 7, 7, 7, 7, 7, 7, 7, 7, 7, 7, 7, 7, 7, 7, 7, 7, 7, 7, 8, 8, 8, 8, 8, 8, 8, 8, 8, 8, 8, 8, 8, 8, 8, 8, 8, 8, 8, 8, 8, 8, 8, 8, 8, 8, 8, 8, 8, 8, 8, 8, 8, 8, 8, 8, 8, 8, 8, 8, 8, 8, 8, 8, 8, 8, 8, 8, 8, 8, 8, 8, 8, 8, 8, 8, 8, 8, 8, 8, 8, 8, 8, 8, 8, 8, 8, 8, 8, 8, 8, 8, 8, 8, 8, 8, 8, 8, 8, 8, 8, 8, 8, 8, 8, 8, 8, 8, 8, 8, 8, 8, 8, 8, 8, 8, 8, 8, 8, 8, 8, 8, 8, 8, 8, 8, 8, 8, 8, 8, 8, 8, 8, 8, 8, 8, 8, 8, 8, 8, 8, 8, 8, 8, 8, 8, 8, 8]⟩ (IntKind.wrap .u8 (n1)) fun n3 => Kr (.int .i64 (IntKind.wrap .i64 (n2 + (IntKind.wrap .i64 (n3))))) w
def F43_1O (Q : Post) (t : Tm) (w : World) : Prop := F43_1 (fun y2 w => ∀ g, rsh [(2, (.one (.int .i64)))] (upds g [(2, y2)]) fun t => Q .ret t w) (t 0) (t 2) w
theorem F43_1_step (Kr : Value → World → Prop) (t : Tm) (w : World) : (F43_1 Kr (t 0) (t 2) w) = rsh [(0, (.one (.int .u32))), (2, (.one (.int .i64)))] t (fun t => vc Try.prog (orcOf []) [1, 1, 1] (getAt F43_code [1, 1, 1]) (F43_1C Kr) t w) := by kernel_rfl
theorem F43_1_ok : ∀ Q t w, F43_1O Q t w → W Try.prog Try.f43.ntmps (getAt F43_code [1, 1, 1]) Q t w := by
  intro Q t w h
  unfold F43_1O at h
  rw [F43_1_step] at h
  refine (vc_sound mixed (orcNil F43_code) _ _ rfl (okC_at F43_code_ok [1, 1, 1]) _ _ _ (rsh_out h)).mono ?_
  intro o t w q
  cases o with
  | normal => exact q.elim
  | exit i => exact q.elim
  | ret => exact out_ok [2] q
def F43_2C (Kr : Value → World → Prop) : Post := fun o t w => match o with | .normal => False | .exit i => (False) | .ret => Kr (t 2) w
def F43_2 (Kr : Value → World → Prop) (x0 : Value) (x2 : Value) (w : World) : Prop :=
  rdI .u32 x0 fun n1 => rdI .i64 x2 fun n2 => br (decide ((n1 : Int) ≥ 256)) (F43_1 (fun y2_2 w4 => ∀ _g5 : Tm, rdI .i64 y2_2 fun n6 => Kr (.int .i64 n6) w4) (.int .u32 (Int.fdiv n1 (2 ^ (min 8 (IntKind.bits .u32))))) (.int .i64 (IntKind.wrap .i64 (n2 + 8))) w) (F43_1 (fun y2_6 w8 => ∀ _g9 : Tm, rdI .i64 y2_6 fun n10 => Kr (.int .i64 n10) w8) (.int .u32 n1) (.int .i64 n2) w)
def F43_2O (Q : Post) (t : Tm) (w : World) : Prop := F43_2 (fun y2 w => ∀ g, rsh [(2, (.one (.int .i64)))] (upds g [(2, y2)]) fun t => Q .ret t w) (t 0) (t 2) w
theorem F43_2_step (Kr : Value → World → Prop) (t : Tm) (w : World) : (F43_2 Kr (t 0) (t 2) w) = rsh [(0, (.one (.int .u32))), (2, (.one (.int .i64)))] t (fun t => vc Try.prog (orcOf [([1, 1, 1], F43_1O)]) [1, 1] (getAt F43_code [1, 1]) (F43_2C Kr) t w) := by kernel_rfl
theorem F43_2_ok : ∀ Q t w, F43_2O Q t w → W Try.prog Try.f43.ntmps (getAt F43_code [1, 1]) Q t w := by
  intro Q t w h
  unfold F43_2O at h
  rw [F43_2_step] at h
  refine (vc_sound mixed (orcCons (π := [1, 1, 1]) F43_1_ok (orcNil F43_code)) _ _ rfl (okC_at F43_code_ok [1, 1]) _ _ _ (rsh_out h)).mono ?_
  intro o t w q
  cases o with
  | normal => exact q.elim
  | exit i => exact q.elim
  | ret => exact out_ok [2] q
def F43 (x0 : Value) (w : World) (K : Value → World → Prop) : Prop :=
  rdI .u32 x0 fun n1 => br (decide ((n1 : Int) ≥ 65536)) (F43_2 (fun y2_1 w3 => ∀ _g4 : Tm, rdI .i64 y2_1 fun n5 => K (.int .i64 n5) w3) (.int .u32 (Int.fdiv n1 (2 ^ (min 16 (IntKind.bits .u32))))) (.int .i64 16) w) (F43_2 (fun y2_5 w7 => ∀ _g8 : Tm, rdI .i64 y2_5 fun n9 => K (.int .i64 n9) w7) (.int .u32 n1) (.int .i64 0) w)
theorem F43_step (x0 : Value) (w : World) (K : Value → World → Prop) : (F43 x0 w K) = rsh [(0, (.one (.int .u32)))] (args0 #[x0]) (fun t => vc Try.prog (orcOf [([1, 1, 1], F43_1O), ([1, 1], F43_2O)]) [] F43_code (retQ Try.prog Try.f43 K) t w) := by kernel_rfl
theorem F43_ok {x0 : Value} {w : World} {K : Value → World → Prop} (h : F43 x0 w K) : Calls Try.prog 43 #[x0] w fun e w' => ∃ v, e = .returned v ∧ K v w' := by
  rw [F43_step] at h
  exact calls_of (c := F43_code) mixed Try.func43 rfl (nlt rfl) (vc_sound mixed (orcCons (π := [1, 1, 1]) F43_1_ok (orcCons (π := [1, 1]) F43_2_ok (orcNil F43_code))) F43_code [] rfl F43_code_ok _ _ _ (rsh_out h))

/-! math/bits.Len64 -/
noncomputable def F44_code : Code := Try.f44.body.getD .skip
theorem F44_code_ok : okC Try.prog Try.f44.ntmps F44_code = true := by kernel_rfl
def F44_1C (Kr : Value → World → Prop) : Post := fun o t w => match o with | .normal => False | .exit i => (False) | .ret => Kr (t 2) w
def F44_1 (Kr : Value → World → Prop) (x0 : Value) (x2 : Value) (w : World) : Prop :=
  rdI .u64 x0 fun n1 => rdI .i64 x2 fun n2 => ixT ⟨#[0, 1, 2, 2, 3, 3, 3, 3, 4, 4, 4, 4, 4, 4, 4, 4, 5, 5, 5, 5, 5, 5, 5, 5, 5, 5, 5, 5, 5, 5, 5, 5, 6, 6, 6, 6, 6, 6, 6, 6, 6, 6, 6, 6, 6, 6, 6, 6, 6, 6, 6, 6, 6, 6, 6, 6, 6, 6, 6, 6, 6, 6, 6, 6, 7, 7, 7, 7, 7, 7, 7, 7, 7, 7, 7, 7, 7, 7, 7, 7, 7, 7, 7, 7, 7, 7, 7, 7, 7, 7, 7, 7, 7, 7, 7, 7, 7, 7, 7, 7, 7, 7, 7, 7, 7, 7, 7, 7, 7, 7, 7, 7, 7, 7, 7, 7, 7, 7, 7, 7, 7, 7, 7, 7, 7, 7, 7, 7, 8, 8, 8, 8, 8, 8, 8, 8, 8, 8, 8, 8, 8, 8, 8, 8, 8, 8, 8, 8, 8, 8, 8, 8, 8, 8, 8, 8, 8, 8, 8, 8, 8, 8, 8, 8, 8, 8, 8, 8, 8, 8, 8, 8, 8, 8, 8, 8, 8, 8, 8, 8, 8, 8, 8, 8, 8, 8, 8, 8, 8, 8, 8, 8, 8, 8, 8, 8, 8, 8, 8, 8, 8, 8, 8, 8, 8, 8, 8, 8, 8, 8, 8, 8, 8, 8, 8, 8, 8, 8, 8, 8, 8, 8, 8, 8, 8, 8, 8, 8, 8, 8, 8, 8, 8, 8, 8, 8, 8, 8, 8, 8, 8, 8, 8, 8, 8, 8, 8, 8, 8, 8, 8, 8, 8, 8, 8, 8]⟩ (IntKind.wrap .u8 (n1)) fun n3 => Kr (.int .i64 (IntKind.wrap .i64 (n2 + (IntKind.wrap .i64 (n3))))) w
def F44_1O (Q : Post) (t : Tm) (w : World) : Prop := F44_1 (fun y2 w => ∀ g, rsh [(2, (.one (.int .i64)))] (upds g [(2, y2)]) fun t => Q .ret t w) (t 0) (t 2) w
theorem F44_1_step (Kr : Value → World → Prop) (t : Tm) (w : World) : (F44_1 Kr (t 0) (t 2) w) = rsh [(0, (.one (.int .u64))), (2, (.one (.int .i64)))] t (fun t => vc Try.prog (orcOf []) [1, 1, 1, 1] (getAt F44_code [1, 1, 1, 1]) (F44_1C Kr) t w) := by kernel_rfl
theorem F44_1_ok : ∀ Q t w, F44_1O Q t w → W Try.prog Try.f44.ntmps (getAt F44_code [1, 1, 1, 1]) Q t w := by
  intro Q t w h
  unfold F44_1O at h
  rw [F44_1_step] at h
  refine (vc_sound mixed (orcNil F44_code) _ _ rfl (okC_at F44_code_ok [1, 1, 1, 1]) _ _ _ (rsh_out h)).mono ?_
  intro o t w q
  cases o with
  | normal => exact q.elim
  | exit i => exact q.elim
  | ret => exact out_ok [2] q
def F44_2C (Kr : Value → World → Prop) : Post := fun o t w => match o with | .normal => False | .exit i => (False) | .ret => Kr (t 2) w
def F44_2 (Kr : Value → World → Prop) (x0 : Value) (x2 : Value) (w : World) : Prop :=
  rdI .u64 x0 fun n1 => rdI .i64 x2 fun n2 => br (decide ((n1 : Int) ≥ 256)) (F44_1 (fun y2_2 w4 => ∀ _g5 : Tm, rdI .i64 y2_2 fun n6 => Kr (.int .i64 n6) w4) (.int .u64 (Int.fdiv n1 (2 ^ (min 8 (IntKind.bits .u64))))) (.int .i64 (IntKind.wrap .i64 (n2 + 8))) w) (F44_1 (fun y2_6 w8 => ∀ _g9 : Tm, rdI .i64 y2_6 fun n10 => Kr (.int .i64 n10) w8) (.int .u64 n1) (.int .i64 n2) w)
def F44_2O (Q : Post) (t : Tm) (w : World) : Prop := F44_2 (fun y2 w => ∀ g, rsh [(2, (.one (.int .i64)))] (upds g [(2, y2)]) fun t => Q .ret t w) (t 0) (t 2) w
theorem F44_2_step (Kr : Value → World → Prop) (t : Tm) (w : World) : (F44_2 Kr (t 0) (t 2) w) = rsh [(0, (.one (.int .u64))), (2, (.one (.int .i64)))] t (fun t => vc Try.prog (orcOf [([1, 1, 1, 1], F44_1O)]) [1, 1, 1] (getAt F44_code [1, 1, 1]) (F44_2C Kr) t w) := by kernel_rfl
theorem F44_2_ok : ∀ Q t w, F44_2O Q t w → W Try.prog Try.f44.ntmps (getAt F44_code [1, 1, 1]) Q t w := by
  intro Q t w h
  unfold F44_2O at h
  rw [F44_2_step] at h
  refine (vc_sound mixed (orcCons (π := [1, 1, 1, 1]) F44_1_ok (orcNil F44_code)) _ _ rfl (okC_at F44_code_ok [1, 1, 1]) _ _ _ (rsh_out h)).mono ?_
  intro o t w q
  cases o with
  | normal => exact q.elim
  | exit i => exact q.elim
  | ret => exact out_ok [2] q
def F44_3C (Kr : Value → World → Prop) : Post := fun o t w => match o with | .normal => False | .exit i => (False) | .ret => Kr (t 2) w
def F44_3 (Kr : Value → World → Prop) (x0 : Value) (x2 : Value) (w : World) : Prop :=
  rdI .u64 x0 fun n1 => rdI .i64 x2 fun n2 => br (decide ((n1 : Int) ≥ 65536)) (F44_2 (fun y2_2 w4 => ∀ _g5 : Tm, rdI .i64 y2_2 fun n6 => Kr (.int .i64 n6) w4) (.int .u64 (Int.fdiv n1 (2 ^ (min 16 (IntKind.bits .u64))))) (.int .i64 (IntKind.wrap .i64 (n2 + 16))) w) (F44_2 (fun y2_6 w8 => ∀ _g9 : Tm, rdI .i64 y2_6 fun n10 => Kr (.int .i64 n10) w8) (.int .u64 n1) (.int .i64 n2) w)
def F44_3O (Q : Post) (t : Tm) (w : World) : Prop := F44_3 (fun y2 w => ∀ g, rsh [(2, (.one (.int .i64)))] (upds g [(2, y2)]) fun t => Q .ret t w) (t 0) (t 2) w
theorem F44_3_step (Kr : Value → World → Prop) (t : Tm) (w : World) : (F44_3 Kr (t 0) (t 2) w) = rsh [(0, (.one (.int .u64))), (2, (.one (.int .i64)))] t (fun t => vc Try.prog (orcOf [([1, 1, 1, 1], F44_1O), ([1, 1, 1], F44_2O)]) [1, 1] (getAt F44_code [1, 1]) (F44_3C Kr) t w) := by kernel_rfl
theorem F44_3_ok : ∀ Q t w, F44_3O Q t w → W Try.prog Try.f44.ntmps (getAt F44_code [1, 1]) Q t w := by
  intro Q t w h
  unfold F44_3O at h
  rw [F44_3_step] at h
  refine (vc_sound mixed (orcCons (π := [1, 1, 1, 1]) F44_1_ok (orcCons (π := [1, 1, 1]) F44_2_ok (orcNil F44_code))) _ _ rfl (okC_at F44_code_ok [1, 1]) _ _ _ (rsh_out h)).mono ?_
  intro o t w q
  cases o with
  | normal => exact q.elim
  | exit i => exact q.elim
  | ret => exact out_ok [2] q
def F44 (x0 : Value) (w : World) (K : Value → World → Prop) : Prop :=
  rdI .u64 x0 fun n1 => br (decide ((n1 : Int) ≥ 4294967296)) (F44_3 (fun y2_1 w3 => ∀ _g4 : Tm, rdI .i64 y2_1 fun n5 => K (.int .i64 n5) w3) (.int .u64 (Int.fdiv n1 (2 ^ (min 32 (IntKind.bits .u64))))) (.int .i64 32) w) (F44_3 (fun y2_5 w7 => ∀ _g8 : Tm, rdI .i64 y2_5 fun n9 => K (.int .i64 n9) w7) (.int .u64 n1) (.int .i64 0) w)
theorem F44_step (x0 : Value) (w : World) (K : Value → World → Prop) : (F44 x0 w K) = rsh [(0, (.one (.int .u64)))] (args0 #[x0]) (fun t => vc Try.prog (orcOf [([1, 1, 1, 1], F44_1O), ([1, 1, 1], F44_2O), ([1, 1], F44_3O)]) [] F44_code (retQ Try.prog Try.f44 K) t w) := by kernel_rfl
theorem F44_ok {x0 : Value} {w : World} {K : Value → World → Prop} (h : F44 x0 w K) : Calls Try.prog 44 #[x0] w fun e w' => ∃ v, e = .returned v ∧ K v w' := by
  rw [F44_step] at h
  exact calls_of (c := F44_code) mixed Try.func44 rfl (nlt rfl) (vc_sound mixed (orcCons (π := [1, 1, 1, 1]) F44_1_ok (orcCons (π := [1, 1, 1]) F44_2_ok (orcCons (π := [1, 1]) F44_3_ok (orcNil F44_code)))) F44_code [] rfl F44_code_ok _ _ _ (rsh_out h))
end Go.Proofs.Ytaiofglmcoojbaa
