/- Own text: part of the shallow reading of the code and of the contracts that are proved over it. -/
import Derived.Test.YtaflmpbeonoilaaRmF0
namespace Go.Proofs.Ytaflmpbeonoilaa
open Go Go.Sh
set_option maxRecDepth 100000

/-! slices.Sort[[]uint32,uint32] -/
noncomputable def F37_code : Code := Try.f37.body.getD .skip
theorem F37_code_ok : okC Try.prog Try.f37.ntmps F37_code = true := by kernel_rfl
def F37 (x0 : Value) (w : World) (K : Value → World → Prop) : Prop :=
  rdC x0 fun l1a l1n l1c => Calls Try.prog 57 #[(.int .u64 (IntKind.wrap .u64 ((l1n : Int))))] w fun e3 w2 => ∃ n4, e3 = .returned (.int .i64 n4) ∧ (Calls Try.prog 59 #[(.slice l1a l1n l1c), (.int .i64 0), (.int .i64 (l1n : Int)), (.int .i64 n4)] w2 fun e6 w5 => e6 = .returned (.tuple #[]) ∧ (K (.tuple #[]) w5))
theorem F37_step (x0 : Value) (w : World) (K : Value → World → Prop) : (F37 x0 w K) = rsh [(0, (.one .slc))] (args0 #[x0]) (fun t => vc Try.prog (orcOf []) [] F37_code (retQ Try.prog Try.f37 K) t w) := by kernel_rfl
theorem F37_ok {x0 : Value} {w : World} {K : Value → World → Prop} (h : F37 x0 w K) : Calls Try.prog 37 #[x0] w fun e w' => ∃ v, e = .returned v ∧ K v w' := by
  rw [F37_step] at h
  exact calls_of (c := F37_code) mixed Try.func37 rfl (nlt rfl) (vc_sound mixed (orcNil F37_code) F37_code [] rfl F37_code_ok _ _ _ (rsh_out h))

/-! math/bits.Len -/
noncomputable def F57_code : Code := Try.f57.body.getD .skip
theorem F57_code_ok : okC Try.prog Try.f57.ntmps F57_code = true := by kernel_rfl
def F57 (x0 : Value) (w : World) (K : Value → World → Prop) : Prop :=
  rdI .u64 x0 fun n1 => Calls Try.prog 79 #[(.int .u64 n1)] w fun e3 w2 => ∃ n4, e3 = .returned (.int .i64 n4) ∧ (K (.int .i64 n4) w2)
theorem F57_step (x0 : Value) (w : World) (K : Value → World → Prop) : (F57 x0 w K) = rsh [(0, (.one (.int .u64)))] (args0 #[x0]) (fun t => vc Try.prog (orcOf []) [] F57_code (retQ Try.prog Try.f57 K) t w) := by kernel_rfl
theorem F57_ok {x0 : Value} {w : World} {K : Value → World → Prop} (h : F57 x0 w K) : Calls Try.prog 57 #[x0] w fun e w' => ∃ v, e = .returned v ∧ K v w' := by
  rw [F57_step] at h
  exact calls_of (c := F57_code) mixed Try.func57 rfl (nlt rfl) (vc_sound mixed (orcNil F57_code) F57_code [] rfl F57_code_ok _ _ _ (rsh_out h))

/-! slices.pdqsortOrdered[uint32] -/
noncomputable def F59_code : Code := Try.f59.body.getD .skip
theorem F59_code_ok : okC Try.prog Try.f59.ntmps F59_code = true := by kernel_rfl
def F59_1C (Kn : Value → Value → Value → Value → Value → Value → World → Prop) : Post := fun o t w => match o with | .normal => Kn (t 0) (t 1) (t 2) (t 3) (t 8) (t 9) w | .exit _ => (False) | .ret => False
def F59_1 (Kn : Value → Value → Value → Value → Value → Value → World → Prop) (x0 : Value) (x1 : Value) (x2 : Value) (x3 : Value) (x10 : Value) (x11 : Value) (w : World) : Prop :=
  rdC x0 fun l1a l1n l1c => rdI .i64 x1 fun n2 => rdI .i64 x2 fun n3 => rdI .i64 x3 fun n4 => rdI .i64 x10 fun n5 => rdI .i64 x11 fun n6 => Calls Try.prog 88 #[(.slice l1a l1n l1c), (.int .i64 n2), (.int .i64 n3), (.int .i64 n6)] w fun e8 w7 => ∃ n9, ∃ b10, e8 = .returned (.tuple #[(.int .i64 n9), (.bool b10)]) ∧ (br (decide (((IntKind.wrap .i64 (n9 - n2)) : Int) < (IntKind.wrap .i64 (n3 - n9)))) (Calls Try.prog 59 #[(.slice l1a l1n l1c), (.int .i64 n2), (.int .i64 n9), (.int .i64 n4)] w7 fun e12 w11 => e12 = .returned (.tuple #[]) ∧ (Kn (.slice l1a l1n l1c) (.int .i64 (IntKind.wrap .i64 (n9 + 1))) (.int .i64 n3) (.int .i64 n4) (.bool (decide (((IntKind.wrap .i64 (n9 - n2)) : Int) ≥ (IntKind.wrap .i64 (Int.tdiv n5 8))))) (.bool b10) w11)) (Calls Try.prog 59 #[(.slice l1a l1n l1c), (.int .i64 (IntKind.wrap .i64 (n9 + 1))), (.int .i64 n3), (.int .i64 n4)] w7 fun e14 w13 => e14 = .returned (.tuple #[]) ∧ (Kn (.slice l1a l1n l1c) (.int .i64 n2) (.int .i64 n9) (.int .i64 n4) (.bool (decide (((IntKind.wrap .i64 (n3 - n9)) : Int) ≥ (IntKind.wrap .i64 (Int.tdiv n5 8))))) (.bool b10) w13)))
def F59_1O (Q : Post) (t : Tm) (w : World) : Prop := F59_1 (fun y0 y1 y2 y3 y8 y9 w => ∀ g, rsh [(0, (.one .slc)), (1, (.one (.int .i64))), (2, (.one (.int .i64))), (3, (.one (.int .i64))), (8, (.one .bool)), (9, (.one .bool))] (upds g [(0, y0), (1, y1), (2, y2), (3, y3), (8, y8), (9, y9)]) fun t => Q .normal t w) (t 0) (t 1) (t 2) (t 3) (t 10) (t 11) w
theorem F59_1_step (Kn : Value → Value → Value → Value → Value → Value → World → Prop) (t : Tm) (w : World) : (F59_1 Kn (t 0) (t 1) (t 2) (t 3) (t 10) (t 11) w) = rsh [(0, (.one .slc)), (1, (.one (.int .i64))), (2, (.one (.int .i64))), (3, (.one (.int .i64))), (10, (.one (.int .i64))), (11, (.one (.int .i64)))] t (fun t => vc Try.prog (orcOf []) [1, 1, 1, 1, 1, 1, 1, 1, 0, 0, 0, 1, 1] (getAt F59_code [1, 1, 1, 1, 1, 1, 1, 1, 0, 0, 0, 1, 1]) (F59_1C Kn) t w) := by kernel_rfl
theorem F59_1_ok : ∀ Q t w, F59_1O Q t w → W Try.prog Try.f59.ntmps (getAt F59_code [1, 1, 1, 1, 1, 1, 1, 1, 0, 0, 0, 1, 1]) Q t w := by
  intro Q t w h
  unfold F59_1O at h
  rw [F59_1_step] at h
  refine (vc_sound mixed (orcNil F59_code) _ _ rfl (okC_at F59_code_ok [1, 1, 1, 1, 1, 1, 1, 1, 0, 0, 0, 1, 1]) _ _ _ (rsh_out h)).mono ?_
  intro o t w q
  cases o with
  | normal => exact out_ok [0, 1, 2, 3, 8, 9] q
  | exit i => exact q.elim
  | ret => exact q.elim
def F59_2C (K1 : Value → Value → Value → Value → Value → Value → World → Prop) (Kn : Value → Value → Value → Value → Value → Value → World → Prop) : Post := fun o t w => match o with | .normal => Kn (t 0) (t 1) (t 2) (t 3) (t 8) (t 9) w | .exit i => (match Nat.beq i 1 with | true => K1 (t 0) (t 1) (t 2) (t 3) (t 8) (t 9) w | false => False) | .ret => False
def F59_2 (K1 : Value → Value → Value → Value → Value → Value → World → Prop) (Kn : Value → Value → Value → Value → Value → Value → World → Prop) (x0 : Value) (x1 : Value) (x2 : Value) (x3 : Value) (x8 : Value) (x9 : Value) (x10 : Value) (x11 : Value) (w : World) : Prop :=
  rdC x0 fun l1a l1n l1c => rdI .i64 x1 fun n2 => rdI .i64 x2 fun n3 => rdI .i64 x3 fun n4 => rdB x8 fun b5 => rdB x9 fun b6 => rdI .i64 x10 fun n7 => rdI .i64 x11 fun n8 => drw w fun w9 => br (decide ((n2 : Int) > 0)) (ixS 1 l1a l1n (IntKind.wrap .i64 (n2 - 1)) fun a10 => ldI .u32 a10 w9 fun n11 => ixS 1 l1a l1n n8 fun a12 => ldI .u32 a12 w9 fun n13 => Calls Try.prog 86 #[(.int .u32 n11), (.int .u32 n13)] w9 fun e15 w14 => ∃ b16, e15 = .returned (.bool b16) ∧ (br (!b16) (Calls Try.prog 87 #[(.slice l1a l1n l1c), (.int .i64 n2), (.int .i64 n3), (.int .i64 n8)] w14 fun e18 w17 => ∃ n19, e18 = .returned (.int .i64 n19) ∧ (K1 (.slice l1a l1n l1c) (.int .i64 n19) (.int .i64 n3) (.int .i64 n4) (.bool b5) (.bool b6) w17)) (F59_1 (fun y0_19 y1_19 y2_19 y3_19 y8_19 y9_19 w21 => ∀ _g22 : Tm, rdC y0_19 fun l23a l23n l23c => rdI .i64 y1_19 fun n24 => rdI .i64 y2_19 fun n25 => rdI .i64 y3_19 fun n26 => rdB y8_19 fun b27 => rdB y9_19 fun b28 => Kn (.slice l23a l23n l23c) (.int .i64 n24) (.int .i64 n25) (.int .i64 n26) (.bool b27) (.bool b28) w21) (.slice l1a l1n l1c) (.int .i64 n2) (.int .i64 n3) (.int .i64 n4) (.int .i64 n7) (.int .i64 n8) w14))) (F59_1 (fun y0_28 y1_28 y2_28 y3_28 y8_28 y9_28 w30 => ∀ _g31 : Tm, rdC y0_28 fun l32a l32n l32c => rdI .i64 y1_28 fun n33 => rdI .i64 y2_28 fun n34 => rdI .i64 y3_28 fun n35 => rdB y8_28 fun b36 => rdB y9_28 fun b37 => Kn (.slice l32a l32n l32c) (.int .i64 n33) (.int .i64 n34) (.int .i64 n35) (.bool b36) (.bool b37) w30) (.slice l1a l1n l1c) (.int .i64 n2) (.int .i64 n3) (.int .i64 n4) (.int .i64 n7) (.int .i64 n8) w9)
def F59_2O (Q : Post) (t : Tm) (w : World) : Prop := F59_2 (fun y0 y1 y2 y3 y8 y9 w => ∀ g, rsh [(0, (.one .slc)), (1, (.one (.int .i64))), (2, (.one (.int .i64))), (3, (.one (.int .i64))), (8, (.one .bool)), (9, (.one .bool))] (upds g [(0, y0), (1, y1), (2, y2), (3, y3), (8, y8), (9, y9)]) fun t => Q (.exit 1) t w) (fun y0 y1 y2 y3 y8 y9 w => ∀ g, rsh [(0, (.one .slc)), (1, (.one (.int .i64))), (2, (.one (.int .i64))), (3, (.one (.int .i64))), (8, (.one .bool)), (9, (.one .bool))] (upds g [(0, y0), (1, y1), (2, y2), (3, y3), (8, y8), (9, y9)]) fun t => Q .normal t w) (t 0) (t 1) (t 2) (t 3) (t 8) (t 9) (t 10) (t 11) w
theorem F59_2_step (K1 : Value → Value → Value → Value → Value → Value → World → Prop) (Kn : Value → Value → Value → Value → Value → Value → World → Prop) (t : Tm) (w : World) : (F59_2 K1 Kn (t 0) (t 1) (t 2) (t 3) (t 8) (t 9) (t 10) (t 11) w) = rsh [(0, (.one .slc)), (1, (.one (.int .i64))), (2, (.one (.int .i64))), (3, (.one (.int .i64))), (8, (.one .bool)), (9, (.one .bool)), (10, (.one (.int .i64))), (11, (.one (.int .i64)))] t (fun t => vc Try.prog (orcOf [([1, 1, 1, 1, 1, 1, 1, 1, 0, 0, 0, 1, 1], F59_1O)]) [1, 1, 1, 1, 1, 1, 1, 0, 0, 0, 1, 1] (getAt F59_code [1, 1, 1, 1, 1, 1, 1, 0, 0, 0, 1, 1]) (F59_2C K1 Kn) t w) := by kernel_rfl
theorem F59_2_ok : ∀ Q t w, F59_2O Q t w → W Try.prog Try.f59.ntmps (getAt F59_code [1, 1, 1, 1, 1, 1, 1, 0, 0, 0, 1, 1]) Q t w := by
  intro Q t w h
  unfold F59_2O at h
  rw [F59_2_step] at h
  refine (vc_sound mixed (orcCons (π := [1, 1, 1, 1, 1, 1, 1, 1, 0, 0, 0, 1, 1]) F59_1_ok (orcNil F59_code)) _ _ rfl (okC_at F59_code_ok [1, 1, 1, 1, 1, 1, 1, 0, 0, 0, 1, 1]) _ _ _ (rsh_out h)).mono ?_
  intro o t w q
  cases o with
  | normal => exact out_ok [0, 1, 2, 3, 8, 9] q
  | exit i =>
      unfold F59_2C at q
      simp only at q
      split at q
      · rename_i hi
        rw [nbeq] at hi
        subst hi
        exact out_ok [0, 1, 2, 3, 8, 9] q
      · exact q.elim
  | ret => exact q.elim
def F59_3C (K1 : Value → Value → Value → Value → Value → Value → World → Prop) (Kn : Value → Value → Value → Value → Value → Value → World → Prop) (Kr : World → Prop) : Post := fun o t w => match o with | .normal => Kn (t 0) (t 1) (t 2) (t 3) (t 8) (t 9) w | .exit i => (match Nat.beq i 1 with | true => K1 (t 0) (t 1) (t 2) (t 3) (t 8) (t 9) w | false => False) | .ret => Kr  w
def F59_3 (K1 : Value → Value → Value → Value → Value → Value → World → Prop) (Kn : Value → Value → Value → Value → Value → Value → World → Prop) (Kr : World → Prop) (x0 : Value) (x1 : Value) (x2 : Value) (x3 : Value) (x8 : Value) (x9 : Value) (x10 : Value) (x11 : Value) (x12 : Value) (w : World) : Prop :=
  rdC x0 fun l1a l1n l1c => rdI .i64 x1 fun n2 => rdI .i64 x2 fun n3 => rdI .i64 x3 fun n4 => rdB x8 fun b5 => rdB x9 fun b6 => rdI .i64 x10 fun n7 => rdI .i64 x11 fun n8 => rdI .i64 x12 fun n9 => br b5 (br b6 (br (n9 == 1) (Calls Try.prog 85 #[(.slice l1a l1n l1c), (.int .i64 n2), (.int .i64 n3)] w fun e11 w10 => ∃ b12, e11 = .returned (.bool b12) ∧ (br b12 (Kr w10) (F59_2 (fun y0_12 y1_12 y2_12 y3_12 y8_12 y9_12 w14 => ∀ _g15 : Tm, rdC y0_12 fun l16a l16n l16c => rdI .i64 y1_12 fun n17 => rdI .i64 y2_12 fun n18 => rdI .i64 y3_12 fun n19 => rdB y8_12 fun b20 => rdB y9_12 fun b21 => K1 (.slice l16a l16n l16c) (.int .i64 n17) (.int .i64 n18) (.int .i64 n19) (.bool b20) (.bool b21) w14) (fun y0_21 y1_21 y2_21 y3_21 y8_21 y9_21 w23 => ∀ _g24 : Tm, rdC y0_21 fun l25a l25n l25c => rdI .i64 y1_21 fun n26 => rdI .i64 y2_21 fun n27 => rdI .i64 y3_21 fun n28 => rdB y8_21 fun b29 => rdB y9_21 fun b30 => Kn (.slice l25a l25n l25c) (.int .i64 n26) (.int .i64 n27) (.int .i64 n28) (.bool b29) (.bool b30) w23) (.slice l1a l1n l1c) (.int .i64 n2) (.int .i64 n3) (.int .i64 n4) (.bool b5) (.bool b6) (.int .i64 n7) (.int .i64 n8) w10))) (F59_2 (fun y0_30 y1_30 y2_30 y3_30 y8_30 y9_30 w32 => ∀ _g33 : Tm, rdC y0_30 fun l34a l34n l34c => rdI .i64 y1_30 fun n35 => rdI .i64 y2_30 fun n36 => rdI .i64 y3_30 fun n37 => rdB y8_30 fun b38 => rdB y9_30 fun b39 => K1 (.slice l34a l34n l34c) (.int .i64 n35) (.int .i64 n36) (.int .i64 n37) (.bool b38) (.bool b39) w32) (fun y0_39 y1_39 y2_39 y3_39 y8_39 y9_39 w41 => ∀ _g42 : Tm, rdC y0_39 fun l43a l43n l43c => rdI .i64 y1_39 fun n44 => rdI .i64 y2_39 fun n45 => rdI .i64 y3_39 fun n46 => rdB y8_39 fun b47 => rdB y9_39 fun b48 => Kn (.slice l43a l43n l43c) (.int .i64 n44) (.int .i64 n45) (.int .i64 n46) (.bool b47) (.bool b48) w41) (.slice l1a l1n l1c) (.int .i64 n2) (.int .i64 n3) (.int .i64 n4) (.bool b5) (.bool b6) (.int .i64 n7) (.int .i64 n8) w)) (F59_2 (fun y0_48 y1_48 y2_48 y3_48 y8_48 y9_48 w50 => ∀ _g51 : Tm, rdC y0_48 fun l52a l52n l52c => rdI .i64 y1_48 fun n53 => rdI .i64 y2_48 fun n54 => rdI .i64 y3_48 fun n55 => rdB y8_48 fun b56 => rdB y9_48 fun b57 => K1 (.slice l52a l52n l52c) (.int .i64 n53) (.int .i64 n54) (.int .i64 n55) (.bool b56) (.bool b57) w50) (fun y0_57 y1_57 y2_57 y3_57 y8_57 y9_57 w59 => ∀ _g60 : Tm, rdC y0_57 fun l61a l61n l61c => rdI .i64 y1_57 fun n62 => rdI .i64 y2_57 fun n63 => rdI .i64 y3_57 fun n64 => rdB y8_57 fun b65 => rdB y9_57 fun b66 => Kn (.slice l61a l61n l61c) (.int .i64 n62) (.int .i64 n63) (.int .i64 n64) (.bool b65) (.bool b66) w59) (.slice l1a l1n l1c) (.int .i64 n2) (.int .i64 n3) (.int .i64 n4) (.bool b5) (.bool b6) (.int .i64 n7) (.int .i64 n8) w)) (F59_2 (fun y0_66 y1_66 y2_66 y3_66 y8_66 y9_66 w68 => ∀ _g69 : Tm, rdC y0_66 fun l70a l70n l70c => rdI .i64 y1_66 fun n71 => rdI .i64 y2_66 fun n72 => rdI .i64 y3_66 fun n73 => rdB y8_66 fun b74 => rdB y9_66 fun b75 => K1 (.slice l70a l70n l70c) (.int .i64 n71) (.int .i64 n72) (.int .i64 n73) (.bool b74) (.bool b75) w68) (fun y0_75 y1_75 y2_75 y3_75 y8_75 y9_75 w77 => ∀ _g78 : Tm, rdC y0_75 fun l79a l79n l79c => rdI .i64 y1_75 fun n80 => rdI .i64 y2_75 fun n81 => rdI .i64 y3_75 fun n82 => rdB y8_75 fun b83 => rdB y9_75 fun b84 => Kn (.slice l79a l79n l79c) (.int .i64 n80) (.int .i64 n81) (.int .i64 n82) (.bool b83) (.bool b84) w77) (.slice l1a l1n l1c) (.int .i64 n2) (.int .i64 n3) (.int .i64 n4) (.bool b5) (.bool b6) (.int .i64 n7) (.int .i64 n8) w)
def F59_3O (Q : Post) (t : Tm) (w : World) : Prop := F59_3 (fun y0 y1 y2 y3 y8 y9 w => ∀ g, rsh [(0, (.one .slc)), (1, (.one (.int .i64))), (2, (.one (.int .i64))), (3, (.one (.int .i64))), (8, (.one .bool)), (9, (.one .bool))] (upds g [(0, y0), (1, y1), (2, y2), (3, y3), (8, y8), (9, y9)]) fun t => Q (.exit 1) t w) (fun y0 y1 y2 y3 y8 y9 w => ∀ g, rsh [(0, (.one .slc)), (1, (.one (.int .i64))), (2, (.one (.int .i64))), (3, (.one (.int .i64))), (8, (.one .bool)), (9, (.one .bool))] (upds g [(0, y0), (1, y1), (2, y2), (3, y3), (8, y8), (9, y9)]) fun t => Q .normal t w) (fun w => ∀ g, rsh [] (upds g []) fun t => Q .ret t w) (t 0) (t 1) (t 2) (t 3) (t 8) (t 9) (t 10) (t 11) (t 12) w
theorem F59_3_step (K1 : Value → Value → Value → Value → Value → Value → World → Prop) (Kn : Value → Value → Value → Value → Value → Value → World → Prop) (Kr : World → Prop) (t : Tm) (w : World) : (F59_3 K1 Kn Kr (t 0) (t 1) (t 2) (t 3) (t 8) (t 9) (t 10) (t 11) (t 12) w) = rsh [(0, (.one .slc)), (1, (.one (.int .i64))), (2, (.one (.int .i64))), (3, (.one (.int .i64))), (8, (.one .bool)), (9, (.one .bool)), (10, (.one (.int .i64))), (11, (.one (.int .i64))), (12, (.one (.int .i64)))] t (fun t => vc Try.prog (orcOf [([1, 1, 1, 1, 1, 1, 1, 1, 0, 0, 0, 1, 1], F59_1O), ([1, 1, 1, 1, 1, 1, 1, 0, 0, 0, 1, 1], F59_2O)]) [1, 1, 1, 1, 1, 1, 0, 0, 0, 1, 1] (getAt F59_code [1, 1, 1, 1, 1, 1, 0, 0, 0, 1, 1]) (F59_3C K1 Kn Kr) t w) := by kernel_rfl
theorem F59_3_ok : ∀ Q t w, F59_3O Q t w → W Try.prog Try.f59.ntmps (getAt F59_code [1, 1, 1, 1, 1, 1, 0, 0, 0, 1, 1]) Q t w := by
  intro Q t w h
  unfold F59_3O at h
  rw [F59_3_step] at h
  refine (vc_sound mixed (orcCons (π := [1, 1, 1, 1, 1, 1, 1, 1, 0, 0, 0, 1, 1]) F59_1_ok (orcCons (π := [1, 1, 1, 1, 1, 1, 1, 0, 0, 0, 1, 1]) F59_2_ok (orcNil F59_code))) _ _ rfl (okC_at F59_code_ok [1, 1, 1, 1, 1, 1, 0, 0, 0, 1, 1]) _ _ _ (rsh_out h)).mono ?_
  intro o t w q
  cases o with
  | normal => exact out_ok [0, 1, 2, 3, 8, 9] q
  | exit i =>
      unfold F59_3C at q
      simp only at q
      split at q
      · rename_i hi
        rw [nbeq] at hi
        subst hi
        exact out_ok [0, 1, 2, 3, 8, 9] q
      · exact q.elim
  | ret => exact out_ok [] q
def F59_4C (K1 : Value → Value → Value → Value → Value → Value → World → Prop) (Kn : Value → Value → Value → Value → Value → Value → World → Prop) (Kr : World → Prop) : Post := fun o t w => match o with | .normal => Kn (t 0) (t 1) (t 2) (t 3) (t 8) (t 9) w | .exit i => (match Nat.beq i 1 with | true => K1 (t 0) (t 1) (t 2) (t 3) (t 8) (t 9) w | false => False) | .ret => Kr  w
def F59_4 (K1 : Value → Value → Value → Value → Value → Value → World → Prop) (Kn : Value → Value → Value → Value → Value → Value → World → Prop) (Kr : World → Prop) (x0 : Value) (x1 : Value) (x2 : Value) (x3 : Value) (x8 : Value) (x9 : Value) (x10 : Value) (w : World) : Prop :=
  rdC x0 fun l1a l1n l1c => rdI .i64 x1 fun n2 => rdI .i64 x2 fun n3 => rdI .i64 x3 fun n4 => rdB x8 fun b5 => rdB x9 fun b6 => rdI .i64 x10 fun n7 => Calls Try.prog 83 #[(.slice l1a l1n l1c), (.int .i64 n2), (.int .i64 n3)] w fun e9 w8 => ∃ n10, ∃ n11, e9 = .returned (.tuple #[(.int .i64 n10), (.int .i64 n11)]) ∧ (br (n11 == 2) (Calls Try.prog 84 #[(.slice l1a l1n l1c), (.int .i64 n2), (.int .i64 n3)] w8 fun e13 w12 => e13 = .returned (.tuple #[]) ∧ (F59_3 (fun y0_13 y1_13 y2_13 y3_13 y8_13 y9_13 w15 => ∀ _g16 : Tm, rdC y0_13 fun l17a l17n l17c => rdI .i64 y1_13 fun n18 => rdI .i64 y2_13 fun n19 => rdI .i64 y3_13 fun n20 => rdB y8_13 fun b21 => rdB y9_13 fun b22 => K1 (.slice l17a l17n l17c) (.int .i64 n18) (.int .i64 n19) (.int .i64 n20) (.bool b21) (.bool b22) w15) (fun y0_22 y1_22 y2_22 y3_22 y8_22 y9_22 w24 => ∀ _g25 : Tm, rdC y0_22 fun l26a l26n l26c => rdI .i64 y1_22 fun n27 => rdI .i64 y2_22 fun n28 => rdI .i64 y3_22 fun n29 => rdB y8_22 fun b30 => rdB y9_22 fun b31 => Kn (.slice l26a l26n l26c) (.int .i64 n27) (.int .i64 n28) (.int .i64 n29) (.bool b30) (.bool b31) w24) (fun w33 => ∀ _g34 : Tm, Kr w33) (.slice l1a l1n l1c) (.int .i64 n2) (.int .i64 n3) (.int .i64 n4) (.bool b5) (.bool b6) (.int .i64 n7) (.int .i64 (IntKind.wrap .i64 ((IntKind.wrap .i64 (n3 - 1)) - (IntKind.wrap .i64 (n10 - n2))))) (.int .i64 1) w12)) (F59_3 (fun y0_34 y1_34 y2_34 y3_34 y8_34 y9_34 w36 => ∀ _g37 : Tm, rdC y0_34 fun l38a l38n l38c => rdI .i64 y1_34 fun n39 => rdI .i64 y2_34 fun n40 => rdI .i64 y3_34 fun n41 => rdB y8_34 fun b42 => rdB y9_34 fun b43 => K1 (.slice l38a l38n l38c) (.int .i64 n39) (.int .i64 n40) (.int .i64 n41) (.bool b42) (.bool b43) w36) (fun y0_43 y1_43 y2_43 y3_43 y8_43 y9_43 w45 => ∀ _g46 : Tm, rdC y0_43 fun l47a l47n l47c => rdI .i64 y1_43 fun n48 => rdI .i64 y2_43 fun n49 => rdI .i64 y3_43 fun n50 => rdB y8_43 fun b51 => rdB y9_43 fun b52 => Kn (.slice l47a l47n l47c) (.int .i64 n48) (.int .i64 n49) (.int .i64 n50) (.bool b51) (.bool b52) w45) (fun w54 => ∀ _g55 : Tm, Kr w54) (.slice l1a l1n l1c) (.int .i64 n2) (.int .i64 n3) (.int .i64 n4) (.bool b5) (.bool b6) (.int .i64 n7) (.int .i64 n10) (.int .i64 n11) w8))
def F59_4O (Q : Post) (t : Tm) (w : World) : Prop := F59_4 (fun y0 y1 y2 y3 y8 y9 w => ∀ g, rsh [(0, (.one .slc)), (1, (.one (.int .i64))), (2, (.one (.int .i64))), (3, (.one (.int .i64))), (8, (.one .bool)), (9, (.one .bool))] (upds g [(0, y0), (1, y1), (2, y2), (3, y3), (8, y8), (9, y9)]) fun t => Q (.exit 1) t w) (fun y0 y1 y2 y3 y8 y9 w => ∀ g, rsh [(0, (.one .slc)), (1, (.one (.int .i64))), (2, (.one (.int .i64))), (3, (.one (.int .i64))), (8, (.one .bool)), (9, (.one .bool))] (upds g [(0, y0), (1, y1), (2, y2), (3, y3), (8, y8), (9, y9)]) fun t => Q .normal t w) (fun w => ∀ g, rsh [] (upds g []) fun t => Q .ret t w) (t 0) (t 1) (t 2) (t 3) (t 8) (t 9) (t 10) w
theorem F59_4_step (K1 : Value → Value → Value → Value → Value → Value → World → Prop) (Kn : Value → Value → Value → Value → Value → Value → World → Prop) (Kr : World → Prop) (t : Tm) (w : World) : (F59_4 K1 Kn Kr (t 0) (t 1) (t 2) (t 3) (t 8) (t 9) (t 10) w) = rsh [(0, (.one .slc)), (1, (.one (.int .i64))), (2, (.one (.int .i64))), (3, (.one (.int .i64))), (8, (.one .bool)), (9, (.one .bool)), (10, (.one (.int .i64)))] t (fun t => vc Try.prog (orcOf [([1, 1, 1, 1, 1, 1, 1, 1, 0, 0, 0, 1, 1], F59_1O), ([1, 1, 1, 1, 1, 1, 1, 0, 0, 0, 1, 1], F59_2O), ([1, 1, 1, 1, 1, 1, 0, 0, 0, 1, 1], F59_3O)]) [1, 1, 1, 1, 0, 0, 0, 1, 1] (getAt F59_code [1, 1, 1, 1, 0, 0, 0, 1, 1]) (F59_4C K1 Kn Kr) t w) := by kernel_rfl
theorem F59_4_ok : ∀ Q t w, F59_4O Q t w → W Try.prog Try.f59.ntmps (getAt F59_code [1, 1, 1, 1, 0, 0, 0, 1, 1]) Q t w := by
  intro Q t w h
  unfold F59_4O at h
  rw [F59_4_step] at h
  refine (vc_sound mixed (orcCons (π := [1, 1, 1, 1, 1, 1, 1, 1, 0, 0, 0, 1, 1]) F59_1_ok (orcCons (π := [1, 1, 1, 1, 1, 1, 1, 0, 0, 0, 1, 1]) F59_2_ok (orcCons (π := [1, 1, 1, 1, 1, 1, 0, 0, 0, 1, 1]) F59_3_ok (orcNil F59_code)))) _ _ rfl (okC_at F59_code_ok [1, 1, 1, 1, 0, 0, 0, 1, 1]) _ _ _ (rsh_out h)).mono ?_
  intro o t w q
  cases o with
  | normal => exact out_ok [0, 1, 2, 3, 8, 9] q
  | exit i =>
      unfold F59_4C at q
      simp only at q
      split at q
      · rename_i hi
        rw [nbeq] at hi
        subst hi
        exact out_ok [0, 1, 2, 3, 8, 9] q
      · exact q.elim
  | ret => exact out_ok [] q
def F59_5C (Kr : World → Prop) : Post := fun o _ w => match o with | .normal => False | .exit _ => (False) | .ret => Kr  w
def F59_5B (R : Value → Value → Value → Value → Value → Value → World → Prop) (Kr : World → Prop) (x0 : Value) (x1 : Value) (x2 : Value) (x3 : Value) (x8 : Value) (x9 : Value) (w : World) : Prop :=
  rdC x0 fun l1a l1n l1c => rdI .i64 x1 fun n2 => rdI .i64 x2 fun n3 => rdI .i64 x3 fun n4 => rdB x8 fun b5 => rdB x9 fun b6 => br (decide (((IntKind.wrap .i64 (n3 - n2)) : Int) ≤ 12)) (Calls Try.prog 80 #[(.slice l1a l1n l1c), (.int .i64 n2), (.int .i64 n3)] w fun e8 w7 => e8 = .returned (.tuple #[]) ∧ (Kr w7)) (br (n4 == 0) (Calls Try.prog 81 #[(.slice l1a l1n l1c), (.int .i64 n2), (.int .i64 n3)] w fun e10 w9 => e10 = .returned (.tuple #[]) ∧ (Kr w9)) (br (!b5) (Calls Try.prog 82 #[(.slice l1a l1n l1c), (.int .i64 n2), (.int .i64 n3)] w fun e12 w11 => e12 = .returned (.tuple #[]) ∧ (F59_4 (fun y0_12 y1_12 y2_12 y3_12 y8_12 y9_12 w14 => ∀ _g15 : Tm, rdC y0_12 fun l16a l16n l16c => rdI .i64 y1_12 fun n17 => rdI .i64 y2_12 fun n18 => rdI .i64 y3_12 fun n19 => rdB y8_12 fun b20 => rdB y9_12 fun b21 => R (.slice l16a l16n l16c) (.int .i64 n17) (.int .i64 n18) (.int .i64 n19) (.bool b20) (.bool b21) w14) (fun y0_21 y1_21 y2_21 y3_21 y8_21 y9_21 w23 => ∀ _g24 : Tm, rdC y0_21 fun l25a l25n l25c => rdI .i64 y1_21 fun n26 => rdI .i64 y2_21 fun n27 => rdI .i64 y3_21 fun n28 => rdB y8_21 fun b29 => rdB y9_21 fun b30 => R (.slice l25a l25n l25c) (.int .i64 n26) (.int .i64 n27) (.int .i64 n28) (.bool b29) (.bool b30) w23) (fun w32 => ∀ _g33 : Tm, Kr w32) (.slice l1a l1n l1c) (.int .i64 n2) (.int .i64 n3) (.int .i64 (IntKind.wrap .i64 (n4 - 1))) (.bool b5) (.bool b6) (.int .i64 (IntKind.wrap .i64 (n3 - n2))) w11)) (F59_4 (fun y0_33 y1_33 y2_33 y3_33 y8_33 y9_33 w35 => ∀ _g36 : Tm, rdC y0_33 fun l37a l37n l37c => rdI .i64 y1_33 fun n38 => rdI .i64 y2_33 fun n39 => rdI .i64 y3_33 fun n40 => rdB y8_33 fun b41 => rdB y9_33 fun b42 => R (.slice l37a l37n l37c) (.int .i64 n38) (.int .i64 n39) (.int .i64 n40) (.bool b41) (.bool b42) w35) (fun y0_42 y1_42 y2_42 y3_42 y8_42 y9_42 w44 => ∀ _g45 : Tm, rdC y0_42 fun l46a l46n l46c => rdI .i64 y1_42 fun n47 => rdI .i64 y2_42 fun n48 => rdI .i64 y3_42 fun n49 => rdB y8_42 fun b50 => rdB y9_42 fun b51 => R (.slice l46a l46n l46c) (.int .i64 n47) (.int .i64 n48) (.int .i64 n49) (.bool b50) (.bool b51) w44) (fun w53 => ∀ _g54 : Tm, Kr w53) (.slice l1a l1n l1c) (.int .i64 n2) (.int .i64 n3) (.int .i64 n4) (.bool b5) (.bool b6) (.int .i64 (IntKind.wrap .i64 (n3 - n2))) w)))
def F59_5 (Kr : World → Prop) : Nat → Value → Value → Value → Value → Value → Value → World → Prop
  | 0 => fun _ _ _ _ _ _ _ => False
  | n + 1 => F59_5B (F59_5 Kr n) Kr
def F59_5O (Q : Post) (t : Tm) (w : World) : Prop := ∃ n, F59_5 (fun w => ∀ g, rsh [] (upds g []) fun t => Q .ret t w) n (t 0) (t 1) (t 2) (t 3) (t 8) (t 9) w
theorem F59_5_step (Kr : World → Prop) (n : Nat) (t : Tm) (w : World) : (F59_5 Kr (n + 1) (t 0) (t 1) (t 2) (t 3) (t 8) (t 9) w) = rsh [(0, (.one .slc)), (1, (.one (.int .i64))), (2, (.one (.int .i64))), (3, (.one (.int .i64))), (8, (.one .bool)), (9, (.one .bool))] t (fun t => vc Try.prog (orcOf [([1, 1, 1, 1, 1, 1, 1, 1, 0, 0, 0, 1, 1], F59_1O), ([1, 1, 1, 1, 1, 1, 1, 0, 0, 0, 1, 1], F59_2O), ([1, 1, 1, 1, 1, 1, 0, 0, 0, 1, 1], F59_3O), ([1, 1, 1, 1, 0, 0, 0, 1, 1], F59_4O)]) [0, 0, 1, 1] (getAt F59_code [0, 0, 1, 1]) (fun o t w => match o with | .normal => F59_5 Kr n (t 0) (t 1) (t 2) (t 3) (t 8) (t 9) w | .exit i => F59_5C Kr (.exit i) t w | .ret => F59_5C Kr .ret t w) t w) := by kernel_rfl
theorem F59_5_ok : ∀ Q t w, F59_5O Q t w → W Try.prog Try.f59.ntmps (getAt F59_code [0, 1, 1]) Q t w := by
  intro Q t w ⟨n, h⟩
  refine (W_loop (P := Try.prog) (b := getAt F59_code [0, 0, 1, 1]) (Q := F59_5C (fun w => ∀ g, rsh [] (upds g []) fun t => Q .ret t w)) (G := fun n t w => F59_5 (fun w => ∀ g, rsh [] (upds g []) fun t => Q .ret t w) n (t 0) (t 1) (t 2) (t 3) (t 8) (t 9) w) (fun _ _ h => h) (fun n t w h => ?_) n t w h).mono ?_
  · rw [F59_5_step] at h
    exact vc_sound mixed (orcCons (π := [1, 1, 1, 1, 1, 1, 1, 1, 0, 0, 0, 1, 1]) F59_1_ok (orcCons (π := [1, 1, 1, 1, 1, 1, 1, 0, 0, 0, 1, 1]) F59_2_ok (orcCons (π := [1, 1, 1, 1, 1, 1, 0, 0, 0, 1, 1]) F59_3_ok (orcCons (π := [1, 1, 1, 1, 0, 0, 0, 1, 1]) F59_4_ok (orcNil F59_code))))) _ _ rfl (okC_at F59_code_ok [0, 0, 1, 1]) _ _ _ (rsh_out h)
  · intro o t w q
    cases o with
    | normal => exact q.elim
    | exit i => exact q.elim
    | ret => exact out_ok [] q
def F59 (x0 : Value) (x1 : Value) (x2 : Value) (x3 : Value) (w : World) (K : Value → World → Prop) : Prop :=
  rdC x0 fun l1a l1n l1c => rdI .i64 x1 fun n2 => rdI .i64 x2 fun n3 => rdI .i64 x3 fun n4 => ∃ k8 : Nat, F59_5 (fun w6 => ∀ _g7 : Tm, K (.tuple #[]) w6) k8 (.slice l1a l1n l1c) (.int .i64 n2) (.int .i64 n3) (.int .i64 n4) (.bool true) (.bool true) w
theorem F59_step (x0 : Value) (x1 : Value) (x2 : Value) (x3 : Value) (w : World) (K : Value → World → Prop) : (F59 x0 x1 x2 x3 w K) = rsh [(0, (.one .slc)), (1, (.one (.int .i64))), (2, (.one (.int .i64))), (3, (.one (.int .i64)))] (args0 #[x0, x1, x2, x3]) (fun t => vc Try.prog (orcOf [([1, 1, 1, 1, 1, 1, 1, 1, 0, 0, 0, 1, 1], F59_1O), ([1, 1, 1, 1, 1, 1, 1, 0, 0, 0, 1, 1], F59_2O), ([1, 1, 1, 1, 1, 1, 0, 0, 0, 1, 1], F59_3O), ([1, 1, 1, 1, 0, 0, 0, 1, 1], F59_4O), ([0, 1, 1], F59_5O)]) [] F59_code (retQ Try.prog Try.f59 K) t w) := by kernel_rfl
theorem F59_ok {x0 x1 x2 x3 : Value} {w : World} {K : Value → World → Prop} (h : F59 x0 x1 x2 x3 w K) : Calls Try.prog 59 #[x0, x1, x2, x3] w fun e w' => ∃ v, e = .returned v ∧ K v w' := by
  rw [F59_step] at h
  exact calls_of (c := F59_code) mixed Try.func59 rfl (nlt rfl) (vc_sound mixed (orcCons (π := [1, 1, 1, 1, 1, 1, 1, 1, 0, 0, 0, 1, 1]) F59_1_ok (orcCons (π := [1, 1, 1, 1, 1, 1, 1, 0, 0, 0, 1, 1]) F59_2_ok (orcCons (π := [1, 1, 1, 1, 1, 1, 0, 0, 0, 1, 1]) F59_3_ok (orcCons (π := [1, 1, 1, 1, 0, 0, 0, 1, 1]) F59_4_ok (orcCons (π := [0, 1, 1]) F59_5_ok (orcNil F59_code)))))) F59_code [] rfl F59_code_ok _ _ _ (rsh_out h))

/-! math/bits.Len32 -/
noncomputable def F78_code : Code := Try.f78.body.getD .skip
theorem F78_code_ok : okC Try.prog Try.f78.ntmps F78_code = true := by kernel_rfl
def F78_1C (Kr : Value → World → Prop) : Post := fun o t w => match o with | .normal => False | .exit _ => (False) | .ret => Kr (t 2) w
def F78_1 (Kr : Value → World → Prop) (x0 : Value) (x2 : Value) (w : World) : Prop :=
  rdI .u32 x0 fun n1 => rdI .i64 x2 fun n2 => ixT ⟨#[0, 1, 2, 2, 3, 3, 3, 3, 4, 4, 4, 4, 4, 4, 4, 4, 5, 5, 5, 5, 5, 5, 5, 5, 5, 5, 5, 5, 5, 5, 5, 5, 6, 6, 6, 6, 6, 6, 6, 6, 6, 6, 6, 6, 6, 6, 6, 6, 6, 6, 6, 6, 6, 6, 6, 6, 6, 6, 6, 6, 6, 6, 6, 6, 7, 7, 7, 7, 7, 7, 7, 7, 7, 7, 7, 7, 7, 7, 7, 7, 7, 7, 7, 7, 7, 7, 7, 7, 7, 7, 7, 7, 7, 7, 7, 7, 7, 7, 7, 7, 7, 7, 7, 7, 7, 7, 7, 7, 7, 7, 7, 7, 7, 7, 7, 7, 7, 7, 7, 7, 7, 7, 7, 7, 7, 7, 7, 7, 8, 8, 8, 8, 8, 8, 8, 8, 8, 8, 8, 8, 8, 8, 8, 8, 8, 8, 8, 8, 8, 8, 8, 8, 8, 8, 8, 8, 8, 8, 8, 8, 8, 8, 8, 8, 8, 8, 8, 8, 8, 8, 8, 8, 8, 8, 8, 8, 8, 8, 8, 8, 8, 8, 8, 8, 8, 8, 8, 8, 8, 8, 8, 8, 8, 8, 8, 8, 8, 8, 8, 8, 8, 8, 8, 8, 8, 8, 8, 8, 8, 8, 8, 8, 8, 8, 8, 8, 8, 8, 8, 8, 8, 8, 8, 8, 8, 8, 8, 8, 8, 8, 8, 8, 8, 8, 8, 8, 8, 8, 8, 8, 8, 8, 8, 8, 8, 8, 8, 8, 8, 8, 8, 8, 8, 8, 8, 8]⟩ (IntKind.wrap .u8 (n1)) fun n3 => Kr (.int .i64 (IntKind.wrap .i64 (n2 + (IntKind.wrap .i64 (n3))))) w
def F78_1O (Q : Post) (t : Tm) (w : World) : Prop := F78_1 (fun y2 w => ∀ g, rsh [(2, (.one (.int .i64)))] (upds g [(2, y2)]) fun t => Q .ret t w) (t 0) (t 2) w
theorem F78_1_step (Kr : Value → World → Prop) (t : Tm) (w : World) : (F78_1 Kr (t 0) (t 2) w) = rsh [(0, (.one (.int .u32))), (2, (.one (.int .i64)))] t (fun t => vc Try.prog (orcOf []) [1, 1, 1] (getAt F78_code [1, 1, 1]) (F78_1C Kr) t w) := by kernel_rfl
theorem F78_1_ok : ∀ Q t w, F78_1O Q t w → W Try.prog Try.f78.ntmps (getAt F78_code [1, 1, 1]) Q t w := by
  intro Q t w h
  unfold F78_1O at h
  rw [F78_1_step] at h
  refine (vc_sound mixed (orcNil F78_code) _ _ rfl (okC_at F78_code_ok [1, 1, 1]) _ _ _ (rsh_out h)).mono ?_
  intro o t w q
  cases o with
  | normal => exact q.elim
  | exit i => exact q.elim
  | ret => exact out_ok [2] q
def F78_2C (Kr : Value → World → Prop) : Post := fun o t w => match o with | .normal => False | .exit _ => (False) | .ret => Kr (t 2) w
def F78_2 (Kr : Value → World → Prop) (x0 : Value) (x2 : Value) (w : World) : Prop :=
  rdI .u32 x0 fun n1 => rdI .i64 x2 fun n2 => br (decide ((n1 : Int) ≥ 256)) (F78_1 (fun y2_2 w4 => ∀ _g5 : Tm, rdI .i64 y2_2 fun n6 => Kr (.int .i64 n6) w4) (.int .u32 (Int.fdiv n1 (2 ^ (min 8 (IntKind.bits .u32))))) (.int .i64 (IntKind.wrap .i64 (n2 + 8))) w) (F78_1 (fun y2_6 w8 => ∀ _g9 : Tm, rdI .i64 y2_6 fun n10 => Kr (.int .i64 n10) w8) (.int .u32 n1) (.int .i64 n2) w)
def F78_2O (Q : Post) (t : Tm) (w : World) : Prop := F78_2 (fun y2 w => ∀ g, rsh [(2, (.one (.int .i64)))] (upds g [(2, y2)]) fun t => Q .ret t w) (t 0) (t 2) w
theorem F78_2_step (Kr : Value → World → Prop) (t : Tm) (w : World) : (F78_2 Kr (t 0) (t 2) w) = rsh [(0, (.one (.int .u32))), (2, (.one (.int .i64)))] t (fun t => vc Try.prog (orcOf [([1, 1, 1], F78_1O)]) [1, 1] (getAt F78_code [1, 1]) (F78_2C Kr) t w) := by kernel_rfl
theorem F78_2_ok : ∀ Q t w, F78_2O Q t w → W Try.prog Try.f78.ntmps (getAt F78_code [1, 1]) Q t w := by
  intro Q t w h
  unfold F78_2O at h
  rw [F78_2_step] at h
  refine (vc_sound mixed (orcCons (π := [1, 1, 1]) F78_1_ok (orcNil F78_code)) _ _ rfl (okC_at F78_code_ok [1, 1]) _ _ _ (rsh_out h)).mono ?_
  intro o t w q
  cases o with
  | normal => exact q.elim
  | exit i => exact q.elim
  | ret => exact out_ok [2] q
def F78 (x0 : Value) (w : World) (K : Value → World → Prop) : Prop :=
  rdI .u32 x0 fun n1 => br (decide ((n1 : Int) ≥ 65536)) (F78_2 (fun y2_1 w3 => ∀ _g4 : Tm, rdI .i64 y2_1 fun n5 => K (.int .i64 n5) w3) (.int .u32 (Int.fdiv n1 (2 ^ (min 16 (IntKind.bits .u32))))) (.int .i64 16) w) (F78_2 (fun y2_5 w7 => ∀ _g8 : Tm, rdI .i64 y2_5 fun n9 => K (.int .i64 n9) w7) (.int .u32 n1) (.int .i64 0) w)
theorem F78_step (x0 : Value) (w : World) (K : Value → World → Prop) : (F78 x0 w K) = rsh [(0, (.one (.int .u32)))] (args0 #[x0]) (fun t => vc Try.prog (orcOf [([1, 1, 1], F78_1O), ([1, 1], F78_2O)]) [] F78_code (retQ Try.prog Try.f78 K) t w) := by kernel_rfl
theorem F78_ok {x0 : Value} {w : World} {K : Value → World → Prop} (h : F78 x0 w K) : Calls Try.prog 78 #[x0] w fun e w' => ∃ v, e = .returned v ∧ K v w' := by
  rw [F78_step] at h
  exact calls_of (c := F78_code) mixed Try.func78 rfl (nlt rfl) (vc_sound mixed (orcCons (π := [1, 1, 1]) F78_1_ok (orcCons (π := [1, 1]) F78_2_ok (orcNil F78_code))) F78_code [] rfl F78_code_ok _ _ _ (rsh_out h))

/-! math/bits.Len64 -/
noncomputable def F79_code : Code := Try.f79.body.getD .skip
theorem F79_code_ok : okC Try.prog Try.f79.ntmps F79_code = true := by kernel_rfl
def F79_1C (Kr : Value → World → Prop) : Post := fun o t w => match o with | .normal => False | .exit _ => (False) | .ret => Kr (t 2) w
def F79_1 (Kr : Value → World → Prop) (x0 : Value) (x2 : Value) (w : World) : Prop :=
  rdI .u64 x0 fun n1 => rdI .i64 x2 fun n2 => ixT ⟨#[0, 1, 2, 2, 3, 3, 3, 3, 4, 4, 4, 4, 4, 4, 4, 4, 5, 5, 5, 5, 5, 5, 5, 5, 5, 5, 5, 5, 5, 5, 5, 5, 6, 6, 6, 6, 6, 6, 6, 6, 6, 6, 6, 6, 6, 6, 6, 6, 6, 6, 6, 6, 6, 6, 6, 6, 6, 6, 6, 6, 6, 6, 6, 6, 7, 7, 7, 7, 7, 7, 7, 7, 7, 7, 7, 7, 7, 7, 7, 7, 7, 7, 7, 7, 7, 7, 7, 7, 7, 7, 7, 7, 7, 7, 7, 7, 7, 7, 7, 7, 7, 7, 7, 7, 7, 7, 7, 7, 7, 7, 7, 7, 7, 7, 7, 7, 7, 7, 7, 7, 7, 7, 7, 7, 7, 7, 7, 7, 8, 8, 8, 8, 8, 8, 8, 8, 8, 8, 8, 8, 8, 8, 8, 8, 8, 8, 8, 8, 8, 8, 8, 8, 8, 8, 8, 8, 8, 8, 8, 8, 8, 8, 8, 8, 8, 8, 8, 8, 8, 8, 8, 8, 8, 8, 8, 8, 8, 8, 8, 8, 8, 8, 8, 8, 8, 8, 8, 8, 8, 8, 8, 8, 8, 8, 8, 8, 8, 8, 8, 8, 8, 8, 8, 8, 8, 8, 8, 8, 8, 8, 8, 8, 8, 8, 8, 8, 8, 8, 8, 8, 8, 8, 8, 8, 8, 8, 8, 8, 8, 8, 8, 8, 8, 8, 8, 8, 8, 8, 8, 8, 8, 8, 8, 8, 8, 8, 8, 8, 8, 8, 8, 8, 8, 8, 8, 8]⟩ (IntKind.wrap .u8 (n1)) fun n3 => Kr (.int .i64 (IntKind.wrap .i64 (n2 + (IntKind.wrap .i64 (n3))))) w
def F79_1O (Q : Post) (t : Tm) (w : World) : Prop := F79_1 (fun y2 w => ∀ g, rsh [(2, (.one (.int .i64)))] (upds g [(2, y2)]) fun t => Q .ret t w) (t 0) (t 2) w
theorem F79_1_step (Kr : Value → World → Prop) (t : Tm) (w : World) : (F79_1 Kr (t 0) (t 2) w) = rsh [(0, (.one (.int .u64))), (2, (.one (.int .i64)))] t (fun t => vc Try.prog (orcOf []) [1, 1, 1, 1] (getAt F79_code [1, 1, 1, 1]) (F79_1C Kr) t w) := by kernel_rfl
theorem F79_1_ok : ∀ Q t w, F79_1O Q t w → W Try.prog Try.f79.ntmps (getAt F79_code [1, 1, 1, 1]) Q t w := by
  intro Q t w h
  unfold F79_1O at h
  rw [F79_1_step] at h
  refine (vc_sound mixed (orcNil F79_code) _ _ rfl (okC_at F79_code_ok [1, 1, 1, 1]) _ _ _ (rsh_out h)).mono ?_
  intro o t w q
  cases o with
  | normal => exact q.elim
  | exit i => exact q.elim
  | ret => exact out_ok [2] q
def F79_2C (Kr : Value → World → Prop) : Post := fun o t w => match o with | .normal => False | .exit _ => (False) | .ret => Kr (t 2) w
def F79_2 (Kr : Value → World → Prop) (x0 : Value) (x2 : Value) (w : World) : Prop :=
  rdI .u64 x0 fun n1 => rdI .i64 x2 fun n2 => br (decide ((n1 : Int) ≥ 256)) (F79_1 (fun y2_2 w4 => ∀ _g5 : Tm, rdI .i64 y2_2 fun n6 => Kr (.int .i64 n6) w4) (.int .u64 (Int.fdiv n1 (2 ^ (min 8 (IntKind.bits .u64))))) (.int .i64 (IntKind.wrap .i64 (n2 + 8))) w) (F79_1 (fun y2_6 w8 => ∀ _g9 : Tm, rdI .i64 y2_6 fun n10 => Kr (.int .i64 n10) w8) (.int .u64 n1) (.int .i64 n2) w)
def F79_2O (Q : Post) (t : Tm) (w : World) : Prop := F79_2 (fun y2 w => ∀ g, rsh [(2, (.one (.int .i64)))] (upds g [(2, y2)]) fun t => Q .ret t w) (t 0) (t 2) w
theorem F79_2_step (Kr : Value → World → Prop) (t : Tm) (w : World) : (F79_2 Kr (t 0) (t 2) w) = rsh [(0, (.one (.int .u64))), (2, (.one (.int .i64)))] t (fun t => vc Try.prog (orcOf [([1, 1, 1, 1], F79_1O)]) [1, 1, 1] (getAt F79_code [1, 1, 1]) (F79_2C Kr) t w) := by kernel_rfl
theorem F79_2_ok : ∀ Q t w, F79_2O Q t w → W Try.prog Try.f79.ntmps (getAt F79_code [1, 1, 1]) Q t w := by
  intro Q t w h
  unfold F79_2O at h
  rw [F79_2_step] at h
  refine (vc_sound mixed (orcCons (π := [1, 1, 1, 1]) F79_1_ok (orcNil F79_code)) _ _ rfl (okC_at F79_code_ok [1, 1, 1]) _ _ _ (rsh_out h)).mono ?_
  intro o t w q
  cases o with
  | normal => exact q.elim
  | exit i => exact q.elim
  | ret => exact out_ok [2] q
def F79_3C (Kr : Value → World → Prop) : Post := fun o t w => match o with | .normal => False | .exit _ => (False) | .ret => Kr (t 2) w
def F79_3 (Kr : Value → World → Prop) (x0 : Value) (x2 : Value) (w : World) : Prop :=
  rdI .u64 x0 fun n1 => rdI .i64 x2 fun n2 => br (decide ((n1 : Int) ≥ 65536)) (F79_2 (fun y2_2 w4 => ∀ _g5 : Tm, rdI .i64 y2_2 fun n6 => Kr (.int .i64 n6) w4) (.int .u64 (Int.fdiv n1 (2 ^ (min 16 (IntKind.bits .u64))))) (.int .i64 (IntKind.wrap .i64 (n2 + 16))) w) (F79_2 (fun y2_6 w8 => ∀ _g9 : Tm, rdI .i64 y2_6 fun n10 => Kr (.int .i64 n10) w8) (.int .u64 n1) (.int .i64 n2) w)
def F79_3O (Q : Post) (t : Tm) (w : World) : Prop := F79_3 (fun y2 w => ∀ g, rsh [(2, (.one (.int .i64)))] (upds g [(2, y2)]) fun t => Q .ret t w) (t 0) (t 2) w
theorem F79_3_step (Kr : Value → World → Prop) (t : Tm) (w : World) : (F79_3 Kr (t 0) (t 2) w) = rsh [(0, (.one (.int .u64))), (2, (.one (.int .i64)))] t (fun t => vc Try.prog (orcOf [([1, 1, 1, 1], F79_1O), ([1, 1, 1], F79_2O)]) [1, 1] (getAt F79_code [1, 1]) (F79_3C Kr) t w) := by kernel_rfl
theorem F79_3_ok : ∀ Q t w, F79_3O Q t w → W Try.prog Try.f79.ntmps (getAt F79_code [1, 1]) Q t w := by
  intro Q t w h
  unfold F79_3O at h
  rw [F79_3_step] at h
  refine (vc_sound mixed (orcCons (π := [1, 1, 1, 1]) F79_1_ok (orcCons (π := [1, 1, 1]) F79_2_ok (orcNil F79_code))) _ _ rfl (okC_at F79_code_ok [1, 1]) _ _ _ (rsh_out h)).mono ?_
  intro o t w q
  cases o with
  | normal => exact q.elim
  | exit i => exact q.elim
  | ret => exact out_ok [2] q
def F79 (x0 : Value) (w : World) (K : Value → World → Prop) : Prop :=
  rdI .u64 x0 fun n1 => br (decide ((n1 : Int) ≥ 4294967296)) (F79_3 (fun y2_1 w3 => ∀ _g4 : Tm, rdI .i64 y2_1 fun n5 => K (.int .i64 n5) w3) (.int .u64 (Int.fdiv n1 (2 ^ (min 32 (IntKind.bits .u64))))) (.int .i64 32) w) (F79_3 (fun y2_5 w7 => ∀ _g8 : Tm, rdI .i64 y2_5 fun n9 => K (.int .i64 n9) w7) (.int .u64 n1) (.int .i64 0) w)
theorem F79_step (x0 : Value) (w : World) (K : Value → World → Prop) : (F79 x0 w K) = rsh [(0, (.one (.int .u64)))] (args0 #[x0]) (fun t => vc Try.prog (orcOf [([1, 1, 1, 1], F79_1O), ([1, 1, 1], F79_2O), ([1, 1], F79_3O)]) [] F79_code (retQ Try.prog Try.f79 K) t w) := by kernel_rfl
theorem F79_ok {x0 : Value} {w : World} {K : Value → World → Prop} (h : F79 x0 w K) : Calls Try.prog 79 #[x0] w fun e w' => ∃ v, e = .returned v ∧ K v w' := by
  rw [F79_step] at h
  exact calls_of (c := F79_code) mixed Try.func79 rfl (nlt rfl) (vc_sound mixed (orcCons (π := [1, 1, 1, 1]) F79_1_ok (orcCons (π := [1, 1, 1]) F79_2_ok (orcCons (π := [1, 1]) F79_3_ok (orcNil F79_code)))) F79_code [] rfl F79_code_ok _ _ _ (rsh_out h))

/-! slices.insertionSortOrdered[uint32] -/
noncomputable def F80_code : Code := Try.f80.body.getD .skip
theorem F80_code_ok : okC Try.prog Try.f80.ntmps F80_code = true := by kernel_rfl
def F80_1C (Kn : Value → Value → Value → Value → Value → World → Prop) : Post := fun o t w => match o with | .normal => Kn (t 0) (t 1) (t 2) (t 6) (t 7) w | .exit _ => (False) | .ret => False
def F80_1 (Kn : Value → Value → Value → Value → Value → World → Prop) (x0 : Value) (x1 : Value) (x2 : Value) (x6 : Value) (x7 : Value) (w : World) : Prop :=
  rdC x0 fun l1a l1n l1c => rdI .i64 x1 fun n2 => rdI .i64 x2 fun n3 => rdI .i64 x6 fun n4 => rdI .i64 x7 fun n5 => drw w fun w6 => ixS 1 l1a l1n (IntKind.wrap .i64 (n5 - 1)) fun a7 => ldI .u32 a7 w6 fun n8 => ixS 1 l1a l1n n5 fun a9 => ldI .u32 a9 w6 fun n10 => ixS 1 l1a l1n n5 fun a11 => stc a11 (.int .u32 n8) w6 fun w12 => ixS 1 l1a l1n (IntKind.wrap .i64 (n5 - 1)) fun a13 => stc a13 (.int .u32 n10) w12 fun w14 => Kn (.slice l1a l1n l1c) (.int .i64 n2) (.int .i64 n3) (.int .i64 n4) (.int .i64 (IntKind.wrap .i64 (n5 - 1))) w14
def F80_1O (Q : Post) (t : Tm) (w : World) : Prop := F80_1 (fun y0 y1 y2 y6 y7 w => ∀ g, rsh [(0, (.one .slc)), (1, (.one (.int .i64))), (2, (.one (.int .i64))), (6, (.one (.int .i64))), (7, (.one (.int .i64)))] (upds g [(0, y0), (1, y1), (2, y2), (6, y6), (7, y7)]) fun t => Q .normal t w) (t 0) (t 1) (t 2) (t 6) (t 7) w
theorem F80_1_step (Kn : Value → Value → Value → Value → Value → World → Prop) (t : Tm) (w : World) : (F80_1 Kn (t 0) (t 1) (t 2) (t 6) (t 7) w) = rsh [(0, (.one .slc)), (1, (.one (.int .i64))), (2, (.one (.int .i64))), (6, (.one (.int .i64))), (7, (.one (.int .i64)))] t (fun t => vc Try.prog (orcOf []) [1, 0, 0, 1, 0, 0, 1, 0, 0, 1] (getAt F80_code [1, 0, 0, 1, 0, 0, 1, 0, 0, 1]) (F80_1C Kn) t w) := by kernel_rfl
theorem F80_1_ok : ∀ Q t w, F80_1O Q t w → W Try.prog Try.f80.ntmps (getAt F80_code [1, 0, 0, 1, 0, 0, 1, 0, 0, 1]) Q t w := by
  intro Q t w h
  unfold F80_1O at h
  rw [F80_1_step] at h
  refine (vc_sound mixed (orcNil F80_code) _ _ rfl (okC_at F80_code_ok [1, 0, 0, 1, 0, 0, 1, 0, 0, 1]) _ _ _ (rsh_out h)).mono ?_
  intro o t w q
  cases o with
  | normal => exact out_ok [0, 1, 2, 6, 7] q
  | exit i => exact q.elim
  | ret => exact q.elim
def F80_2C (K2 : Value → Value → Value → Value → World → Prop) : Post := fun o t w => match o with | .normal => False | .exit i => (match Nat.beq i 2 with | true => K2 (t 0) (t 1) (t 2) (t 6) w | false => False) | .ret => False
def F80_2B (R : Value → Value → Value → Value → Value → World → Prop) (K2 : Value → Value → Value → Value → World → Prop) (x0 : Value) (x1 : Value) (x2 : Value) (x6 : Value) (x7 : Value) (w : World) : Prop :=
  rdC x0 fun l1a l1n l1c => rdI .i64 x1 fun n2 => rdI .i64 x2 fun n3 => rdI .i64 x6 fun n4 => rdI .i64 x7 fun n5 => drw w fun w6 => br (decide ((n5 : Int) > n2)) (ixS 1 l1a l1n n5 fun a7 => ldI .u32 a7 w6 fun n8 => ixS 1 l1a l1n (IntKind.wrap .i64 (n5 - 1)) fun a9 => ldI .u32 a9 w6 fun n10 => Calls Try.prog 86 #[(.int .u32 n8), (.int .u32 n10)] w6 fun e12 w11 => ∃ b13, e12 = .returned (.bool b13) ∧ (br b13 (F80_1 (fun y0_13 y1_13 y2_13 y6_13 y7_13 w15 => ∀ _g16 : Tm, rdC y0_13 fun l17a l17n l17c => rdI .i64 y1_13 fun n18 => rdI .i64 y2_13 fun n19 => rdI .i64 y6_13 fun n20 => rdI .i64 y7_13 fun n21 => R (.slice l17a l17n l17c) (.int .i64 n18) (.int .i64 n19) (.int .i64 n20) (.int .i64 n21) w15) (.slice l1a l1n l1c) (.int .i64 n2) (.int .i64 n3) (.int .i64 n4) (.int .i64 n5) w11) (K2 (.slice l1a l1n l1c) (.int .i64 n2) (.int .i64 n3) (.int .i64 n4) w11))) (K2 (.slice l1a l1n l1c) (.int .i64 n2) (.int .i64 n3) (.int .i64 n4) w6)
def F80_2 (K2 : Value → Value → Value → Value → World → Prop) : Nat → Value → Value → Value → Value → Value → World → Prop
  | 0 => fun _ _ _ _ _ _ => False
  | n + 1 => F80_2B (F80_2 K2 n) K2
def F80_2O (Q : Post) (t : Tm) (w : World) : Prop := ∃ n, F80_2 (fun y0 y1 y2 y6 w => ∀ g, rsh [(0, (.one .slc)), (1, (.one (.int .i64))), (2, (.one (.int .i64))), (6, (.one (.int .i64)))] (upds g [(0, y0), (1, y1), (2, y2), (6, y6)]) fun t => Q (.exit 2) t w) n (t 0) (t 1) (t 2) (t 6) (t 7) w
theorem F80_2_step (K2 : Value → Value → Value → Value → World → Prop) (n : Nat) (t : Tm) (w : World) : (F80_2 K2 (n + 1) (t 0) (t 1) (t 2) (t 6) (t 7) w) = rsh [(0, (.one .slc)), (1, (.one (.int .i64))), (2, (.one (.int .i64))), (6, (.one (.int .i64))), (7, (.one (.int .i64)))] t (fun t => vc Try.prog (orcOf [([1, 0, 0, 1, 0, 0, 1, 0, 0, 1], F80_1O)]) [0, 0, 1, 0, 0, 1, 0, 0, 1] (getAt F80_code [0, 0, 1, 0, 0, 1, 0, 0, 1]) (fun o t w => match o with | .normal => F80_2 K2 n (t 0) (t 1) (t 2) (t 6) (t 7) w | .exit i => F80_2C K2 (.exit i) t w | .ret => F80_2C K2 .ret t w) t w) := by kernel_rfl
theorem F80_2_ok : ∀ Q t w, F80_2O Q t w → W Try.prog Try.f80.ntmps (getAt F80_code [0, 1, 0, 0, 1, 0, 0, 1]) Q t w := by
  intro Q t w ⟨n, h⟩
  refine (W_loop (P := Try.prog) (b := getAt F80_code [0, 0, 1, 0, 0, 1, 0, 0, 1]) (Q := F80_2C (fun y0 y1 y2 y6 w => ∀ g, rsh [(0, (.one .slc)), (1, (.one (.int .i64))), (2, (.one (.int .i64))), (6, (.one (.int .i64)))] (upds g [(0, y0), (1, y1), (2, y2), (6, y6)]) fun t => Q (.exit 2) t w)) (G := fun n t w => F80_2 (fun y0 y1 y2 y6 w => ∀ g, rsh [(0, (.one .slc)), (1, (.one (.int .i64))), (2, (.one (.int .i64))), (6, (.one (.int .i64)))] (upds g [(0, y0), (1, y1), (2, y2), (6, y6)]) fun t => Q (.exit 2) t w) n (t 0) (t 1) (t 2) (t 6) (t 7) w) (fun _ _ h => h) (fun n t w h => ?_) n t w h).mono ?_
  · rw [F80_2_step] at h
    exact vc_sound mixed (orcCons (π := [1, 0, 0, 1, 0, 0, 1, 0, 0, 1]) F80_1_ok (orcNil F80_code)) _ _ rfl (okC_at F80_code_ok [0, 0, 1, 0, 0, 1, 0, 0, 1]) _ _ _ (rsh_out h)
  · intro o t w q
    cases o with
    | normal => exact q.elim
    | exit i =>
      unfold F80_2C at q
      simp only at q
      split at q
      · rename_i hi
        rw [nbeq] at hi
        subst hi
        exact out_ok [0, 1, 2, 6] q
      · exact q.elim
    | ret => exact q.elim
def F80_3C (K0 : World → Prop) : Post := fun o _ w => match o with | .normal => False | .exit i => (match Nat.beq i 0 with | true => K0  w | false => False) | .ret => False
def F80_3B (R : Value → Value → Value → Value → World → Prop) (K0 : World → Prop) (x0 : Value) (x1 : Value) (x2 : Value) (x6 : Value) (w : World) : Prop :=
  rdC x0 fun l1a l1n l1c => rdI .i64 x1 fun n2 => rdI .i64 x2 fun n3 => rdI .i64 x6 fun n4 => br (decide ((n4 : Int) < n3)) (∃ k12 : Nat, F80_2 (fun y0_4 y1_4 y2_4 y6_4 w6 => ∀ _g7 : Tm, rdC y0_4 fun l8a l8n l8c => rdI .i64 y1_4 fun n9 => rdI .i64 y2_4 fun n10 => rdI .i64 y6_4 fun n11 => R (.slice l8a l8n l8c) (.int .i64 n9) (.int .i64 n10) (.int .i64 (IntKind.wrap .i64 (n11 + 1))) w6) k12 (.slice l1a l1n l1c) (.int .i64 n2) (.int .i64 n3) (.int .i64 n4) (.int .i64 n4) w) (K0 w)
def F80_3 (K0 : World → Prop) : Nat → Value → Value → Value → Value → World → Prop
  | 0 => fun _ _ _ _ _ => False
  | n + 1 => F80_3B (F80_3 K0 n) K0
def F80_3O (Q : Post) (t : Tm) (w : World) : Prop := ∃ n, F80_3 (fun w => ∀ g, rsh [] (upds g []) fun t => Q (.exit 0) t w) n (t 0) (t 1) (t 2) (t 6) w
theorem F80_3_step (K0 : World → Prop) (n : Nat) (t : Tm) (w : World) : (F80_3 K0 (n + 1) (t 0) (t 1) (t 2) (t 6) w) = rsh [(0, (.one .slc)), (1, (.one (.int .i64))), (2, (.one (.int .i64))), (6, (.one (.int .i64)))] t (fun t => vc Try.prog (orcOf [([1, 0, 0, 1, 0, 0, 1, 0, 0, 1], F80_1O), ([0, 1, 0, 0, 1, 0, 0, 1], F80_2O)]) [0, 0, 1] (getAt F80_code [0, 0, 1]) (fun o t w => match o with | .normal => F80_3 K0 n (t 0) (t 1) (t 2) (t 6) w | .exit i => F80_3C K0 (.exit i) t w | .ret => F80_3C K0 .ret t w) t w) := by kernel_rfl
theorem F80_3_ok : ∀ Q t w, F80_3O Q t w → W Try.prog Try.f80.ntmps (getAt F80_code [0, 1]) Q t w := by
  intro Q t w ⟨n, h⟩
  refine (W_loop (P := Try.prog) (b := getAt F80_code [0, 0, 1]) (Q := F80_3C (fun w => ∀ g, rsh [] (upds g []) fun t => Q (.exit 0) t w)) (G := fun n t w => F80_3 (fun w => ∀ g, rsh [] (upds g []) fun t => Q (.exit 0) t w) n (t 0) (t 1) (t 2) (t 6) w) (fun _ _ h => h) (fun n t w h => ?_) n t w h).mono ?_
  · rw [F80_3_step] at h
    exact vc_sound mixed (orcCons (π := [1, 0, 0, 1, 0, 0, 1, 0, 0, 1]) F80_1_ok (orcCons (π := [0, 1, 0, 0, 1, 0, 0, 1]) F80_2_ok (orcNil F80_code))) _ _ rfl (okC_at F80_code_ok [0, 0, 1]) _ _ _ (rsh_out h)
  · intro o t w q
    cases o with
    | normal => exact q.elim
    | exit i =>
      unfold F80_3C at q
      simp only at q
      split at q
      · rename_i hi
        rw [nbeq] at hi
        subst hi
        exact out_ok [] q
      · exact q.elim
    | ret => exact q.elim
def F80 (x0 : Value) (x1 : Value) (x2 : Value) (w : World) (K : Value → World → Prop) : Prop :=
  rdC x0 fun l1a l1n l1c => rdI .i64 x1 fun n2 => rdI .i64 x2 fun n3 => ∃ k7 : Nat, F80_3 (fun w5 => ∀ _g6 : Tm, K (.tuple #[]) w5) k7 (.slice l1a l1n l1c) (.int .i64 n2) (.int .i64 n3) (.int .i64 (IntKind.wrap .i64 (n2 + 1))) w
theorem F80_step (x0 : Value) (x1 : Value) (x2 : Value) (w : World) (K : Value → World → Prop) : (F80 x0 x1 x2 w K) = rsh [(0, (.one .slc)), (1, (.one (.int .i64))), (2, (.one (.int .i64)))] (args0 #[x0, x1, x2]) (fun t => vc Try.prog (orcOf [([1, 0, 0, 1, 0, 0, 1, 0, 0, 1], F80_1O), ([0, 1, 0, 0, 1, 0, 0, 1], F80_2O), ([0, 1], F80_3O)]) [] F80_code (retQ Try.prog Try.f80 K) t w) := by kernel_rfl
theorem F80_ok {x0 x1 x2 : Value} {w : World} {K : Value → World → Prop} (h : F80 x0 x1 x2 w K) : Calls Try.prog 80 #[x0, x1, x2] w fun e w' => ∃ v, e = .returned v ∧ K v w' := by
  rw [F80_step] at h
  exact calls_of (c := F80_code) mixed Try.func80 rfl (nlt rfl) (vc_sound mixed (orcCons (π := [1, 0, 0, 1, 0, 0, 1, 0, 0, 1]) F80_1_ok (orcCons (π := [0, 1, 0, 0, 1, 0, 0, 1]) F80_2_ok (orcCons (π := [0, 1]) F80_3_ok (orcNil F80_code)))) F80_code [] rfl F80_code_ok _ _ _ (rsh_out h))

/-! slices.heapSortOrdered[uint32] -/
noncomputable def F81_code : Code := Try.f81.body.getD .skip
theorem F81_code_ok : okC Try.prog Try.f81.ntmps F81_code = true := by kernel_rfl
def F81_1C (K0 : Value → Value → Value → Value → World → Prop) : Post := fun o t w => match o with | .normal => False | .exit i => (match Nat.beq i 0 with | true => K0 (t 0) (t 6) (t 7) (t 8) w | false => False) | .ret => False
def F81_1B (R : Value → Value → Value → Value → Value → World → Prop) (K0 : Value → Value → Value → Value → World → Prop) (x0 : Value) (x6 : Value) (x7 : Value) (x8 : Value) (x9 : Value) (w : World) : Prop :=
  rdC x0 fun l1a l1n l1c => rdI .i64 x6 fun n2 => rdI .i64 x7 fun n3 => rdI .i64 x8 fun n4 => rdI .i64 x9 fun n5 => br (decide ((n5 : Int) ≥ 0)) (Calls Try.prog 96 #[(.slice l1a l1n l1c), (.int .i64 n5), (.int .i64 n4), (.int .i64 n2)] w fun e7 w6 => e7 = .returned (.tuple #[]) ∧ (R (.slice l1a l1n l1c) (.int .i64 n2) (.int .i64 n3) (.int .i64 n4) (.int .i64 (IntKind.wrap .i64 (n5 - 1))) w6)) (K0 (.slice l1a l1n l1c) (.int .i64 n2) (.int .i64 n3) (.int .i64 n4) w)
def F81_1 (K0 : Value → Value → Value → Value → World → Prop) : Nat → Value → Value → Value → Value → Value → World → Prop
  | 0 => fun _ _ _ _ _ _ => False
  | n + 1 => F81_1B (F81_1 K0 n) K0
def F81_1O (Q : Post) (t : Tm) (w : World) : Prop := ∃ n, F81_1 (fun y0 y6 y7 y8 w => ∀ g, rsh [(0, (.one .slc)), (6, (.one (.int .i64))), (7, (.one (.int .i64))), (8, (.one (.int .i64)))] (upds g [(0, y0), (6, y6), (7, y7), (8, y8)]) fun t => Q (.exit 0) t w) n (t 0) (t 6) (t 7) (t 8) (t 9) w
theorem F81_1_step (K0 : Value → Value → Value → Value → World → Prop) (n : Nat) (t : Tm) (w : World) : (F81_1 K0 (n + 1) (t 0) (t 6) (t 7) (t 8) (t 9) w) = rsh [(0, (.one .slc)), (6, (.one (.int .i64))), (7, (.one (.int .i64))), (8, (.one (.int .i64))), (9, (.one (.int .i64)))] t (fun t => vc Try.prog (orcOf []) [0, 0, 1, 0, 1, 1, 1] (getAt F81_code [0, 0, 1, 0, 1, 1, 1]) (fun o t w => match o with | .normal => F81_1 K0 n (t 0) (t 6) (t 7) (t 8) (t 9) w | .exit i => F81_1C K0 (.exit i) t w | .ret => F81_1C K0 .ret t w) t w) := by kernel_rfl
theorem F81_1_ok : ∀ Q t w, F81_1O Q t w → W Try.prog Try.f81.ntmps (getAt F81_code [0, 1, 0, 1, 1, 1]) Q t w := by
  intro Q t w ⟨n, h⟩
  refine (W_loop (P := Try.prog) (b := getAt F81_code [0, 0, 1, 0, 1, 1, 1]) (Q := F81_1C (fun y0 y6 y7 y8 w => ∀ g, rsh [(0, (.one .slc)), (6, (.one (.int .i64))), (7, (.one (.int .i64))), (8, (.one (.int .i64)))] (upds g [(0, y0), (6, y6), (7, y7), (8, y8)]) fun t => Q (.exit 0) t w)) (G := fun n t w => F81_1 (fun y0 y6 y7 y8 w => ∀ g, rsh [(0, (.one .slc)), (6, (.one (.int .i64))), (7, (.one (.int .i64))), (8, (.one (.int .i64)))] (upds g [(0, y0), (6, y6), (7, y7), (8, y8)]) fun t => Q (.exit 0) t w) n (t 0) (t 6) (t 7) (t 8) (t 9) w) (fun _ _ h => h) (fun n t w h => ?_) n t w h).mono ?_
  · rw [F81_1_step] at h
    exact vc_sound mixed (orcNil F81_code) _ _ rfl (okC_at F81_code_ok [0, 0, 1, 0, 1, 1, 1]) _ _ _ (rsh_out h)
  · intro o t w q
    cases o with
    | normal => exact q.elim
    | exit i =>
      unfold F81_1C at q
      simp only at q
      split at q
      · rename_i hi
        rw [nbeq] at hi
        subst hi
        exact out_ok [0, 6, 7, 8] q
      · exact q.elim
    | ret => exact q.elim
def F81_2C (K2 : World → Prop) : Post := fun o _ w => match o with | .normal => False | .exit i => (match Nat.beq i 2 with | true => K2  w | false => False) | .ret => False
def F81_2B (R : Value → Value → Value → Value → World → Prop) (K2 : World → Prop) (x0 : Value) (x6 : Value) (x7 : Value) (x10 : Value) (w : World) : Prop :=
  rdC x0 fun l1a l1n l1c => rdI .i64 x6 fun n2 => rdI .i64 x7 fun n3 => rdI .i64 x10 fun n4 => br (decide ((n4 : Int) ≥ 0)) (drw w fun w5 => ixS 1 l1a l1n (IntKind.wrap .i64 (n2 + n4)) fun a6 => ldI .u32 a6 w5 fun n7 => ixS 1 l1a l1n n2 fun a8 => ldI .u32 a8 w5 fun n9 => ixS 1 l1a l1n n2 fun a10 => stc a10 (.int .u32 n7) w5 fun w11 => ixS 1 l1a l1n (IntKind.wrap .i64 (n2 + n4)) fun a12 => stc a12 (.int .u32 n9) w11 fun w13 => Calls Try.prog 96 #[(.slice l1a l1n l1c), (.int .i64 n3), (.int .i64 n4), (.int .i64 n2)] w13 fun e15 w14 => e15 = .returned (.tuple #[]) ∧ (R (.slice l1a l1n l1c) (.int .i64 n2) (.int .i64 n3) (.int .i64 (IntKind.wrap .i64 (n4 - 1))) w14)) (K2 w)
def F81_2 (K2 : World → Prop) : Nat → Value → Value → Value → Value → World → Prop
  | 0 => fun _ _ _ _ _ => False
  | n + 1 => F81_2B (F81_2 K2 n) K2
def F81_2O (Q : Post) (t : Tm) (w : World) : Prop := ∃ n, F81_2 (fun w => ∀ g, rsh [] (upds g []) fun t => Q (.exit 2) t w) n (t 0) (t 6) (t 7) (t 10) w
theorem F81_2_step (K2 : World → Prop) (n : Nat) (t : Tm) (w : World) : (F81_2 K2 (n + 1) (t 0) (t 6) (t 7) (t 10) w) = rsh [(0, (.one .slc)), (6, (.one (.int .i64))), (7, (.one (.int .i64))), (10, (.one (.int .i64)))] t (fun t => vc Try.prog (orcOf []) [0, 0, 1, 1, 1, 1, 1] (getAt F81_code [0, 0, 1, 1, 1, 1, 1]) (fun o t w => match o with | .normal => F81_2 K2 n (t 0) (t 6) (t 7) (t 10) w | .exit i => F81_2C K2 (.exit i) t w | .ret => F81_2C K2 .ret t w) t w) := by kernel_rfl
theorem F81_2_ok : ∀ Q t w, F81_2O Q t w → W Try.prog Try.f81.ntmps (getAt F81_code [0, 1, 1, 1, 1, 1]) Q t w := by
  intro Q t w ⟨n, h⟩
  refine (W_loop (P := Try.prog) (b := getAt F81_code [0, 0, 1, 1, 1, 1, 1]) (Q := F81_2C (fun w => ∀ g, rsh [] (upds g []) fun t => Q (.exit 2) t w)) (G := fun n t w => F81_2 (fun w => ∀ g, rsh [] (upds g []) fun t => Q (.exit 2) t w) n (t 0) (t 6) (t 7) (t 10) w) (fun _ _ h => h) (fun n t w h => ?_) n t w h).mono ?_
  · rw [F81_2_step] at h
    exact vc_sound mixed (orcNil F81_code) _ _ rfl (okC_at F81_code_ok [0, 0, 1, 1, 1, 1, 1]) _ _ _ (rsh_out h)
  · intro o t w q
    cases o with
    | normal => exact q.elim
    | exit i =>
      unfold F81_2C at q
      simp only at q
      split at q
      · rename_i hi
        rw [nbeq] at hi
        subst hi
        exact out_ok [] q
      · exact q.elim
    | ret => exact q.elim
def F81 (x0 : Value) (x1 : Value) (x2 : Value) (w : World) (K : Value → World → Prop) : Prop :=
  rdC x0 fun l1a l1n l1c => rdI .i64 x1 fun n2 => rdI .i64 x2 fun n3 => ∃ k15 : Nat, F81_1 (fun y0_3 y6_3 y7_3 y8_3 w5 => ∀ _g6 : Tm, rdC y0_3 fun l7a l7n l7c => rdI .i64 y6_3 fun n8 => rdI .i64 y7_3 fun n9 => rdI .i64 y8_3 fun n10 => ∃ k14 : Nat, F81_2 (fun w12 => ∀ _g13 : Tm, K (.tuple #[]) w12) k14 (.slice l7a l7n l7c) (.int .i64 n8) (.int .i64 n9) (.int .i64 (IntKind.wrap .i64 (n10 - 1))) w5) k15 (.slice l1a l1n l1c) (.int .i64 n2) (.int .i64 0) (.int .i64 (IntKind.wrap .i64 (n3 - n2))) (.int .i64 (IntKind.wrap .i64 (Int.tdiv (IntKind.wrap .i64 ((IntKind.wrap .i64 (n3 - n2)) - 1)) 2))) w
theorem F81_step (x0 : Value) (x1 : Value) (x2 : Value) (w : World) (K : Value → World → Prop) : (F81 x0 x1 x2 w K) = rsh [(0, (.one .slc)), (1, (.one (.int .i64))), (2, (.one (.int .i64)))] (args0 #[x0, x1, x2]) (fun t => vc Try.prog (orcOf [([0, 1, 0, 1, 1, 1], F81_1O), ([0, 1, 1, 1, 1, 1], F81_2O)]) [] F81_code (retQ Try.prog Try.f81 K) t w) := by kernel_rfl
theorem F81_ok {x0 x1 x2 : Value} {w : World} {K : Value → World → Prop} (h : F81 x0 x1 x2 w K) : Calls Try.prog 81 #[x0, x1, x2] w fun e w' => ∃ v, e = .returned v ∧ K v w' := by
  rw [F81_step] at h
  exact calls_of (c := F81_code) mixed Try.func81 rfl (nlt rfl) (vc_sound mixed (orcCons (π := [0, 1, 0, 1, 1, 1]) F81_1_ok (orcCons (π := [0, 1, 1, 1, 1, 1]) F81_2_ok (orcNil F81_code))) F81_code [] rfl F81_code_ok _ _ _ (rsh_out h))

/-! slices.breakPatternsOrdered[uint32] -/
noncomputable def F82_code : Code := Try.f82.body.getD .skip
theorem F82_code_ok : okC Try.prog Try.f82.ntmps F82_code = true := by kernel_rfl
def F82_1C (Kn : Value → Value → Value → Value → Value → Value → World → Prop) : Post := fun o t w => match o with | .normal => Kn (t 0) (t 1) (t 6) (t 7) (t 8) (t 9) w | .exit _ => (False) | .ret => False
def F82_1 (Kn : Value → Value → Value → Value → Value → Value → World → Prop) (x0 : Value) (x1 : Value) (x6 : Value) (x7 : Value) (x8 : Value) (x9 : Value) (x10 : Value) (w : World) : Prop :=
  rdC x0 fun l1a l1n l1c => rdI .i64 x1 fun n2 => rdI .i64 x6 fun n3 => rdA x7 fun a4 => rdI .u64 x8 fun n5 => rdI .i64 x9 fun n6 => rdI .i64 x10 fun n7 => drw w fun w8 => ixS 1 l1a l1n (IntKind.wrap .i64 (n2 + n7)) fun a9 => ldI .u32 a9 w8 fun n10 => ixS 1 l1a l1n n6 fun a11 => ldI .u32 a11 w8 fun n12 => ixS 1 l1a l1n n6 fun a13 => stc a13 (.int .u32 n10) w8 fun w14 => ixS 1 l1a l1n (IntKind.wrap .i64 (n2 + n7)) fun a15 => stc a15 (.int .u32 n12) w14 fun w16 => Kn (.slice l1a l1n l1c) (.int .i64 n2) (.int .i64 n3) (.pointer (some a4)) (.int .u64 n5) (.int .i64 n6) w16
def F82_1O (Q : Post) (t : Tm) (w : World) : Prop := F82_1 (fun y0 y1 y6 y7 y8 y9 w => ∀ g, rsh [(0, (.one .slc)), (1, (.one (.int .i64))), (6, (.one (.int .i64))), (7, (.one .adr)), (8, (.one (.int .u64))), (9, (.one (.int .i64)))] (upds g [(0, y0), (1, y1), (6, y6), (7, y7), (8, y8), (9, y9)]) fun t => Q .normal t w) (t 0) (t 1) (t 6) (t 7) (t 8) (t 9) (t 10) w
theorem F82_1_step (Kn : Value → Value → Value → Value → Value → Value → World → Prop) (t : Tm) (w : World) : (F82_1 Kn (t 0) (t 1) (t 6) (t 7) (t 8) (t 9) (t 10) w) = rsh [(0, (.one .slc)), (1, (.one (.int .i64))), (6, (.one (.int .i64))), (7, (.one .adr)), (8, (.one (.int .u64))), (9, (.one (.int .i64))), (10, (.one (.int .i64)))] t (fun t => vc Try.prog (orcOf []) [1, 1, 0, 0, 1, 0, 0, 1, 1, 1, 0, 1, 1] (getAt F82_code [1, 1, 0, 0, 1, 0, 0, 1, 1, 1, 0, 1, 1]) (F82_1C Kn) t w) := by kernel_rfl
theorem F82_1_ok : ∀ Q t w, F82_1O Q t w → W Try.prog Try.f82.ntmps (getAt F82_code [1, 1, 0, 0, 1, 0, 0, 1, 1, 1, 0, 1, 1]) Q t w := by
  intro Q t w h
  unfold F82_1O at h
  rw [F82_1_step] at h
  refine (vc_sound mixed (orcNil F82_code) _ _ rfl (okC_at F82_code_ok [1, 1, 0, 0, 1, 0, 0, 1, 1, 1, 0, 1, 1]) _ _ _ (rsh_out h)).mono ?_
  intro o t w q
  cases o with
  | normal => exact out_ok [0, 1, 6, 7, 8, 9] q
  | exit i => exact q.elim
  | ret => exact q.elim
def F82_2C (K0 : World → Prop) : Post := fun o _ w => match o with | .normal => False | .exit i => (match Nat.beq i 0 with | true => K0  w | false => False) | .ret => False
def F82_2B (R : Value → Value → Value → Value → Value → Value → World → Prop) (K0 : World → Prop) (x0 : Value) (x1 : Value) (x6 : Value) (x7 : Value) (x8 : Value) (x9 : Value) (w : World) : Prop :=
  rdC x0 fun l1a l1n l1c => rdI .i64 x1 fun n2 => rdI .i64 x6 fun n3 => rdA x7 fun a4 => rdI .u64 x8 fun n5 => rdI .i64 x9 fun n6 => br (decide ((n6 : Int) ≤ (IntKind.wrap .i64 ((IntKind.wrap .i64 (n2 + (IntKind.wrap .i64 ((IntKind.wrap .i64 (Int.tdiv n3 4)) * 2)))) + 1)))) (Calls Try.prog 93 #[(.pointer (some a4))] w fun e8 w7 => ∃ n9, e8 = .returned (.int .u64 n9) ∧ (br (decide (((IntKind.wrap .i64 ((bitI .and .u64 n9 (IntKind.wrap .u64 (n5 - 1))))) : Int) ≥ n3)) (F82_1 (fun y0_9 y1_9 y6_9 y7_9 y8_9 y9_9 w11 => ∀ _g12 : Tm, rdC y0_9 fun l13a l13n l13c => rdI .i64 y1_9 fun n14 => rdI .i64 y6_9 fun n15 => rdA y7_9 fun a16 => rdI .u64 y8_9 fun n17 => rdI .i64 y9_9 fun n18 => R (.slice l13a l13n l13c) (.int .i64 n14) (.int .i64 n15) (.pointer (some a16)) (.int .u64 n17) (.int .i64 (IntKind.wrap .i64 (n18 + 1))) w11) (.slice l1a l1n l1c) (.int .i64 n2) (.int .i64 n3) (.pointer (some a4)) (.int .u64 n5) (.int .i64 n6) (.int .i64 (IntKind.wrap .i64 ((IntKind.wrap .i64 ((bitI .and .u64 n9 (IntKind.wrap .u64 (n5 - 1))))) - n3))) w7) (F82_1 (fun y0_18 y1_18 y6_18 y7_18 y8_18 y9_18 w20 => ∀ _g21 : Tm, rdC y0_18 fun l22a l22n l22c => rdI .i64 y1_18 fun n23 => rdI .i64 y6_18 fun n24 => rdA y7_18 fun a25 => rdI .u64 y8_18 fun n26 => rdI .i64 y9_18 fun n27 => R (.slice l22a l22n l22c) (.int .i64 n23) (.int .i64 n24) (.pointer (some a25)) (.int .u64 n26) (.int .i64 (IntKind.wrap .i64 (n27 + 1))) w20) (.slice l1a l1n l1c) (.int .i64 n2) (.int .i64 n3) (.pointer (some a4)) (.int .u64 n5) (.int .i64 n6) (.int .i64 (IntKind.wrap .i64 ((bitI .and .u64 n9 (IntKind.wrap .u64 (n5 - 1)))))) w7))) (K0 w)
def F82_2 (K0 : World → Prop) : Nat → Value → Value → Value → Value → Value → Value → World → Prop
  | 0 => fun _ _ _ _ _ _ _ => False
  | n + 1 => F82_2B (F82_2 K0 n) K0
def F82_2O (Q : Post) (t : Tm) (w : World) : Prop := ∃ n, F82_2 (fun w => ∀ g, rsh [] (upds g []) fun t => Q (.exit 0) t w) n (t 0) (t 1) (t 6) (t 7) (t 8) (t 9) w
theorem F82_2_step (K0 : World → Prop) (n : Nat) (t : Tm) (w : World) : (F82_2 K0 (n + 1) (t 0) (t 1) (t 6) (t 7) (t 8) (t 9) w) = rsh [(0, (.one .slc)), (1, (.one (.int .i64))), (6, (.one (.int .i64))), (7, (.one .adr)), (8, (.one (.int .u64))), (9, (.one (.int .i64)))] t (fun t => vc Try.prog (orcOf [([1, 1, 0, 0, 1, 0, 0, 1, 1, 1, 0, 1, 1], F82_1O)]) [0, 0, 1, 1, 1, 0, 1, 1] (getAt F82_code [0, 0, 1, 1, 1, 0, 1, 1]) (fun o t w => match o with | .normal => F82_2 K0 n (t 0) (t 1) (t 6) (t 7) (t 8) (t 9) w | .exit i => F82_2C K0 (.exit i) t w | .ret => F82_2C K0 .ret t w) t w) := by kernel_rfl
theorem F82_2_ok : ∀ Q t w, F82_2O Q t w → W Try.prog Try.f82.ntmps (getAt F82_code [0, 1, 1, 1, 0, 1, 1]) Q t w := by
  intro Q t w ⟨n, h⟩
  refine (W_loop (P := Try.prog) (b := getAt F82_code [0, 0, 1, 1, 1, 0, 1, 1]) (Q := F82_2C (fun w => ∀ g, rsh [] (upds g []) fun t => Q (.exit 0) t w)) (G := fun n t w => F82_2 (fun w => ∀ g, rsh [] (upds g []) fun t => Q (.exit 0) t w) n (t 0) (t 1) (t 6) (t 7) (t 8) (t 9) w) (fun _ _ h => h) (fun n t w h => ?_) n t w h).mono ?_
  · rw [F82_2_step] at h
    exact vc_sound mixed (orcCons (π := [1, 1, 0, 0, 1, 0, 0, 1, 1, 1, 0, 1, 1]) F82_1_ok (orcNil F82_code)) _ _ rfl (okC_at F82_code_ok [0, 0, 1, 1, 1, 0, 1, 1]) _ _ _ (rsh_out h)
  · intro o t w q
    cases o with
    | normal => exact q.elim
    | exit i =>
      unfold F82_2C at q
      simp only at q
      split at q
      · rename_i hi
        rw [nbeq] at hi
        subst hi
        exact out_ok [] q
      · exact q.elim
    | ret => exact q.elim
def F82 (x0 : Value) (x1 : Value) (x2 : Value) (w : World) (K : Value → World → Prop) : Prop :=
  rdC x0 fun l1a l1n l1c => rdI .i64 x1 fun n2 => rdI .i64 x2 fun n3 => br (decide (((IntKind.wrap .i64 (n3 - n2)) : Int) ≥ 8)) (alc (.cells #[(.int .u64 0)] 127) w fun b4 w5 => stc (Addr.mk b4 0 none) (.int .u64 (IntKind.wrap .u64 ((IntKind.wrap .i64 (n3 - n2))))) w5 fun w6 => Calls Try.prog 92 #[(.int .i64 (IntKind.wrap .i64 (n3 - n2)))] w6 fun e8 w7 => ∃ n9, e8 = .returned (.int .u64 n9) ∧ (∃ k13 : Nat, F82_2 (fun w11 => ∀ _g12 : Tm, K (.tuple #[]) w11) k13 (.slice l1a l1n l1c) (.int .i64 n2) (.int .i64 (IntKind.wrap .i64 (n3 - n2))) (.pointer (some (Addr.mk b4 0 none))) (.int .u64 n9) (.int .i64 (IntKind.wrap .i64 ((IntKind.wrap .i64 (n2 + (IntKind.wrap .i64 ((IntKind.wrap .i64 (Int.tdiv (IntKind.wrap .i64 (n3 - n2)) 4)) * 2)))) - 1))) w7)) (K (.tuple #[]) w)
theorem F82_step (x0 : Value) (x1 : Value) (x2 : Value) (w : World) (K : Value → World → Prop) : (F82 x0 x1 x2 w K) = rsh [(0, (.one .slc)), (1, (.one (.int .i64))), (2, (.one (.int .i64)))] (args0 #[x0, x1, x2]) (fun t => vc Try.prog (orcOf [([1, 1, 0, 0, 1, 0, 0, 1, 1, 1, 0, 1, 1], F82_1O), ([0, 1, 1, 1, 0, 1, 1], F82_2O)]) [] F82_code (retQ Try.prog Try.f82 K) t w) := by kernel_rfl
theorem F82_ok {x0 x1 x2 : Value} {w : World} {K : Value → World → Prop} (h : F82 x0 x1 x2 w K) : Calls Try.prog 82 #[x0, x1, x2] w fun e w' => ∃ v, e = .returned v ∧ K v w' := by
  rw [F82_step] at h
  exact calls_of (c := F82_code) mixed Try.func82 rfl (nlt rfl) (vc_sound mixed (orcCons (π := [1, 1, 0, 0, 1, 0, 0, 1, 1, 1, 0, 1, 1]) F82_1_ok (orcCons (π := [0, 1, 1, 1, 0, 1, 1]) F82_2_ok (orcNil F82_code))) F82_code [] rfl F82_code_ok _ _ _ (rsh_out h))

/-! slices.choosePivotOrdered[uint32] -/
noncomputable def F83_code : Code := Try.f83.body.getD .skip
theorem F83_code_ok : okC Try.prog Try.f83.ntmps F83_code = true := by kernel_rfl
def F83 (x0 : Value) (x1 : Value) (x2 : Value) (w : World) (K : Value → World → Prop) : Prop :=
  rdC x0 fun l1a l1n l1c => rdI .i64 x1 fun n2 => rdI .i64 x2 fun n3 => alc (.cells #[(.int .i64 0)] 3) w fun b4 w5 => br (decide (((IntKind.wrap .i64 (n3 - n2)) : Int) ≥ 8)) (br (decide (((IntKind.wrap .i64 (n3 - n2)) : Int) ≥ 50)) (Calls Try.prog 97 #[(.slice l1a l1n l1c), (.int .i64 (IntKind.wrap .i64 (n2 + (IntKind.wrap .i64 ((IntKind.wrap .i64 (Int.tdiv (IntKind.wrap .i64 (n3 - n2)) 4)) * 1))))), (.pointer (some (Addr.mk b4 0 none)))] w5 fun e7 w6 => ∃ n8, e7 = .returned (.int .i64 n8) ∧ (Calls Try.prog 97 #[(.slice l1a l1n l1c), (.int .i64 (IntKind.wrap .i64 (n2 + (IntKind.wrap .i64 ((IntKind.wrap .i64 (Int.tdiv (IntKind.wrap .i64 (n3 - n2)) 4)) * 2))))), (.pointer (some (Addr.mk b4 0 none)))] w6 fun e10 w9 => ∃ n11, e10 = .returned (.int .i64 n11) ∧ (Calls Try.prog 97 #[(.slice l1a l1n l1c), (.int .i64 (IntKind.wrap .i64 (n2 + (IntKind.wrap .i64 ((IntKind.wrap .i64 (Int.tdiv (IntKind.wrap .i64 (n3 - n2)) 4)) * 3))))), (.pointer (some (Addr.mk b4 0 none)))] w9 fun e13 w12 => ∃ n14, e13 = .returned (.int .i64 n14) ∧ (Calls Try.prog 98 #[(.slice l1a l1n l1c), (.int .i64 n8), (.int .i64 n11), (.int .i64 n14), (.pointer (some (Addr.mk b4 0 none)))] w12 fun e16 w15 => ∃ n17, e16 = .returned (.int .i64 n17) ∧ (ldI .i64 (Addr.mk b4 0 none) w15 fun n18 => br (n18 == 0) (K (.tuple #[(.int .i64 n17), (.int .i64 1)]) w15) (br (n18 == 12) (K (.tuple #[(.int .i64 n17), (.int .i64 2)]) w15) (K (.tuple #[(.int .i64 n17), (.int .i64 0)]) w15))))))) (Calls Try.prog 98 #[(.slice l1a l1n l1c), (.int .i64 (IntKind.wrap .i64 (n2 + (IntKind.wrap .i64 ((IntKind.wrap .i64 (Int.tdiv (IntKind.wrap .i64 (n3 - n2)) 4)) * 1))))), (.int .i64 (IntKind.wrap .i64 (n2 + (IntKind.wrap .i64 ((IntKind.wrap .i64 (Int.tdiv (IntKind.wrap .i64 (n3 - n2)) 4)) * 2))))), (.int .i64 (IntKind.wrap .i64 (n2 + (IntKind.wrap .i64 ((IntKind.wrap .i64 (Int.tdiv (IntKind.wrap .i64 (n3 - n2)) 4)) * 3))))), (.pointer (some (Addr.mk b4 0 none)))] w5 fun e20 w19 => ∃ n21, e20 = .returned (.int .i64 n21) ∧ (ldI .i64 (Addr.mk b4 0 none) w19 fun n22 => br (n22 == 0) (K (.tuple #[(.int .i64 n21), (.int .i64 1)]) w19) (br (n22 == 12) (K (.tuple #[(.int .i64 n21), (.int .i64 2)]) w19) (K (.tuple #[(.int .i64 n21), (.int .i64 0)]) w19))))) (ldI .i64 (Addr.mk b4 0 none) w5 fun n23 => br (n23 == 0) (K (.tuple #[(.int .i64 (IntKind.wrap .i64 (n2 + (IntKind.wrap .i64 ((IntKind.wrap .i64 (Int.tdiv (IntKind.wrap .i64 (n3 - n2)) 4)) * 2))))), (.int .i64 1)]) w5) (br (n23 == 12) (K (.tuple #[(.int .i64 (IntKind.wrap .i64 (n2 + (IntKind.wrap .i64 ((IntKind.wrap .i64 (Int.tdiv (IntKind.wrap .i64 (n3 - n2)) 4)) * 2))))), (.int .i64 2)]) w5) (K (.tuple #[(.int .i64 (IntKind.wrap .i64 (n2 + (IntKind.wrap .i64 ((IntKind.wrap .i64 (Int.tdiv (IntKind.wrap .i64 (n3 - n2)) 4)) * 2))))), (.int .i64 0)]) w5)))
theorem F83_step (x0 : Value) (x1 : Value) (x2 : Value) (w : World) (K : Value → World → Prop) : (F83 x0 x1 x2 w K) = rsh [(0, (.one .slc)), (1, (.one (.int .i64))), (2, (.one (.int .i64)))] (args0 #[x0, x1, x2]) (fun t => vc Try.prog (orcOf []) [] F83_code (retQ Try.prog Try.f83 K) t w) := by kernel_rfl
theorem F83_ok {x0 x1 x2 : Value} {w : World} {K : Value → World → Prop} (h : F83 x0 x1 x2 w K) : Calls Try.prog 83 #[x0, x1, x2] w fun e w' => ∃ v, e = .returned v ∧ K v w' := by
  rw [F83_step] at h
  exact calls_of (c := F83_code) mixed Try.func83 rfl (nlt rfl) (vc_sound mixed (orcNil F83_code) F83_code [] rfl F83_code_ok _ _ _ (rsh_out h))

/-! slices.reverseRangeOrdered[uint32] -/
noncomputable def F84_code : Code := Try.f84.body.getD .skip
theorem F84_code_ok : okC Try.prog Try.f84.ntmps F84_code = true := by kernel_rfl
def F84_1C (K0 : World → Prop) : Post := fun o _ w => match o with | .normal => False | .exit i => (match Nat.beq i 0 with | true => K0  w | false => False) | .ret => False
def F84_1B (R : Value → Value → Value → World → Prop) (K0 : World → Prop) (x0 : Value) (x6 : Value) (x7 : Value) (w : World) : Prop :=
  rdC x0 fun l1a l1n l1c => rdI .i64 x6 fun n2 => rdI .i64 x7 fun n3 => br (decide ((n2 : Int) < n3)) (drw w fun w4 => ixS 1 l1a l1n n3 fun a5 => ldI .u32 a5 w4 fun n6 => ixS 1 l1a l1n n2 fun a7 => ldI .u32 a7 w4 fun n8 => ixS 1 l1a l1n n2 fun a9 => stc a9 (.int .u32 n6) w4 fun w10 => ixS 1 l1a l1n n3 fun a11 => stc a11 (.int .u32 n8) w10 fun w12 => R (.slice l1a l1n l1c) (.int .i64 (IntKind.wrap .i64 (n2 + 1))) (.int .i64 (IntKind.wrap .i64 (n3 - 1))) w12) (K0 w)
def F84_1 (K0 : World → Prop) : Nat → Value → Value → Value → World → Prop
  | 0 => fun _ _ _ _ => False
  | n + 1 => F84_1B (F84_1 K0 n) K0
def F84_1O (Q : Post) (t : Tm) (w : World) : Prop := ∃ n, F84_1 (fun w => ∀ g, rsh [] (upds g []) fun t => Q (.exit 0) t w) n (t 0) (t 6) (t 7) w
theorem F84_1_step (K0 : World → Prop) (n : Nat) (t : Tm) (w : World) : (F84_1 K0 (n + 1) (t 0) (t 6) (t 7) w) = rsh [(0, (.one .slc)), (6, (.one (.int .i64))), (7, (.one (.int .i64)))] t (fun t => vc Try.prog (orcOf []) [0, 0, 1, 1] (getAt F84_code [0, 0, 1, 1]) (fun o t w => match o with | .normal => F84_1 K0 n (t 0) (t 6) (t 7) w | .exit i => F84_1C K0 (.exit i) t w | .ret => F84_1C K0 .ret t w) t w) := by kernel_rfl
theorem F84_1_ok : ∀ Q t w, F84_1O Q t w → W Try.prog Try.f84.ntmps (getAt F84_code [0, 1, 1]) Q t w := by
  intro Q t w ⟨n, h⟩
  refine (W_loop (P := Try.prog) (b := getAt F84_code [0, 0, 1, 1]) (Q := F84_1C (fun w => ∀ g, rsh [] (upds g []) fun t => Q (.exit 0) t w)) (G := fun n t w => F84_1 (fun w => ∀ g, rsh [] (upds g []) fun t => Q (.exit 0) t w) n (t 0) (t 6) (t 7) w) (fun _ _ h => h) (fun n t w h => ?_) n t w h).mono ?_
  · rw [F84_1_step] at h
    exact vc_sound mixed (orcNil F84_code) _ _ rfl (okC_at F84_code_ok [0, 0, 1, 1]) _ _ _ (rsh_out h)
  · intro o t w q
    cases o with
    | normal => exact q.elim
    | exit i =>
      unfold F84_1C at q
      simp only at q
      split at q
      · rename_i hi
        rw [nbeq] at hi
        subst hi
        exact out_ok [] q
      · exact q.elim
    | ret => exact q.elim
def F84 (x0 : Value) (x1 : Value) (x2 : Value) (w : World) (K : Value → World → Prop) : Prop :=
  rdC x0 fun l1a l1n l1c => rdI .i64 x1 fun n2 => rdI .i64 x2 fun n3 => ∃ k7 : Nat, F84_1 (fun w5 => ∀ _g6 : Tm, K (.tuple #[]) w5) k7 (.slice l1a l1n l1c) (.int .i64 n2) (.int .i64 (IntKind.wrap .i64 (n3 - 1))) w
theorem F84_step (x0 : Value) (x1 : Value) (x2 : Value) (w : World) (K : Value → World → Prop) : (F84 x0 x1 x2 w K) = rsh [(0, (.one .slc)), (1, (.one (.int .i64))), (2, (.one (.int .i64)))] (args0 #[x0, x1, x2]) (fun t => vc Try.prog (orcOf [([0, 1, 1], F84_1O)]) [] F84_code (retQ Try.prog Try.f84 K) t w) := by kernel_rfl
theorem F84_ok {x0 x1 x2 : Value} {w : World} {K : Value → World → Prop} (h : F84 x0 x1 x2 w K) : Calls Try.prog 84 #[x0, x1, x2] w fun e w' => ∃ v, e = .returned v ∧ K v w' := by
  rw [F84_step] at h
  exact calls_of (c := F84_code) mixed Try.func84 rfl (nlt rfl) (vc_sound mixed (orcCons (π := [0, 1, 1]) F84_1_ok (orcNil F84_code)) F84_code [] rfl F84_code_ok _ _ _ (rsh_out h))

/-! slices.partialInsertionSortOrdered[uint32] -/
noncomputable def F85_code : Code := Try.f85.body.getD .skip
theorem F85_code_ok : okC Try.prog Try.f85.ntmps F85_code = true := by kernel_rfl
def F85_1C (K4 : Value → Value → Value → Value → Value → World → Prop) : Post := fun o t w => match o with | .normal => False | .exit i => (match Nat.beq i 4 with | true => K4 (t 0) (t 1) (t 2) (t 7) (t 8) w | false => False) | .ret => False
def F85_1B (R : Value → Value → Value → Value → Value → Value → World → Prop) (K4 : Value → Value → Value → Value → Value → World → Prop) (x0 : Value) (x1 : Value) (x2 : Value) (x7 : Value) (x8 : Value) (x9 : Value) (w : World) : Prop :=
  rdC x0 fun l1a l1n l1c => rdI .i64 x1 fun n2 => rdI .i64 x2 fun n3 => rdI .i64 x7 fun n4 => rdI .i64 x8 fun n5 => rdI .i64 x9 fun n6 => br (decide ((n6 : Int) ≥ 1)) (drw w fun w7 => ixS 1 l1a l1n n6 fun a8 => ldI .u32 a8 w7 fun n9 => ixS 1 l1a l1n (IntKind.wrap .i64 (n6 - 1)) fun a10 => ldI .u32 a10 w7 fun n11 => Calls Try.prog 86 #[(.int .u32 n9), (.int .u32 n11)] w7 fun e13 w12 => ∃ b14, e13 = .returned (.bool b14) ∧ (br (!b14) (K4 (.slice l1a l1n l1c) (.int .i64 n2) (.int .i64 n3) (.int .i64 n4) (.int .i64 n5) w12) (drw w12 fun w15 => ixS 1 l1a l1n (IntKind.wrap .i64 (n6 - 1)) fun a16 => ldI .u32 a16 w15 fun n17 => ixS 1 l1a l1n n6 fun a18 => ldI .u32 a18 w15 fun n19 => ixS 1 l1a l1n n6 fun a20 => stc a20 (.int .u32 n17) w15 fun w21 => ixS 1 l1a l1n (IntKind.wrap .i64 (n6 - 1)) fun a22 => stc a22 (.int .u32 n19) w21 fun w23 => R (.slice l1a l1n l1c) (.int .i64 n2) (.int .i64 n3) (.int .i64 n4) (.int .i64 n5) (.int .i64 (IntKind.wrap .i64 (n6 - 1))) w23))) (K4 (.slice l1a l1n l1c) (.int .i64 n2) (.int .i64 n3) (.int .i64 n4) (.int .i64 n5) w)
def F85_1 (K4 : Value → Value → Value → Value → Value → World → Prop) : Nat → Value → Value → Value → Value → Value → Value → World → Prop
  | 0 => fun _ _ _ _ _ _ _ => False
  | n + 1 => F85_1B (F85_1 K4 n) K4
def F85_1O (Q : Post) (t : Tm) (w : World) : Prop := ∃ n, F85_1 (fun y0 y1 y2 y7 y8 w => ∀ g, rsh [(0, (.one .slc)), (1, (.one (.int .i64))), (2, (.one (.int .i64))), (7, (.one (.int .i64))), (8, (.one (.int .i64)))] (upds g [(0, y0), (1, y1), (2, y2), (7, y7), (8, y8)]) fun t => Q (.exit 4) t w) n (t 0) (t 1) (t 2) (t 7) (t 8) (t 9) w
theorem F85_1_step (K4 : Value → Value → Value → Value → Value → World → Prop) (n : Nat) (t : Tm) (w : World) : (F85_1 K4 (n + 1) (t 0) (t 1) (t 2) (t 7) (t 8) (t 9) w) = rsh [(0, (.one .slc)), (1, (.one (.int .i64))), (2, (.one (.int .i64))), (7, (.one (.int .i64))), (8, (.one (.int .i64))), (9, (.one (.int .i64)))] t (fun t => vc Try.prog (orcOf []) [0, 0, 1, 0, 1, 0, 1, 1, 1, 1, 0, 0, 1, 0, 0, 1, 0, 1, 1] (getAt F85_code [0, 0, 1, 0, 1, 0, 1, 1, 1, 1, 0, 0, 1, 0, 0, 1, 0, 1, 1]) (fun o t w => match o with | .normal => F85_1 K4 n (t 0) (t 1) (t 2) (t 7) (t 8) (t 9) w | .exit i => F85_1C K4 (.exit i) t w | .ret => F85_1C K4 .ret t w) t w) := by kernel_rfl
theorem F85_1_ok : ∀ Q t w, F85_1O Q t w → W Try.prog Try.f85.ntmps (getAt F85_code [0, 1, 0, 1, 0, 1, 1, 1, 1, 0, 0, 1, 0, 0, 1, 0, 1, 1]) Q t w := by
  intro Q t w ⟨n, h⟩
  refine (W_loop (P := Try.prog) (b := getAt F85_code [0, 0, 1, 0, 1, 0, 1, 1, 1, 1, 0, 0, 1, 0, 0, 1, 0, 1, 1]) (Q := F85_1C (fun y0 y1 y2 y7 y8 w => ∀ g, rsh [(0, (.one .slc)), (1, (.one (.int .i64))), (2, (.one (.int .i64))), (7, (.one (.int .i64))), (8, (.one (.int .i64)))] (upds g [(0, y0), (1, y1), (2, y2), (7, y7), (8, y8)]) fun t => Q (.exit 4) t w)) (G := fun n t w => F85_1 (fun y0 y1 y2 y7 y8 w => ∀ g, rsh [(0, (.one .slc)), (1, (.one (.int .i64))), (2, (.one (.int .i64))), (7, (.one (.int .i64))), (8, (.one (.int .i64)))] (upds g [(0, y0), (1, y1), (2, y2), (7, y7), (8, y8)]) fun t => Q (.exit 4) t w) n (t 0) (t 1) (t 2) (t 7) (t 8) (t 9) w) (fun _ _ h => h) (fun n t w h => ?_) n t w h).mono ?_
  · rw [F85_1_step] at h
    exact vc_sound mixed (orcNil F85_code) _ _ rfl (okC_at F85_code_ok [0, 0, 1, 0, 1, 0, 1, 1, 1, 1, 0, 0, 1, 0, 0, 1, 0, 1, 1]) _ _ _ (rsh_out h)
  · intro o t w q
    cases o with
    | normal => exact q.elim
    | exit i =>
      unfold F85_1C at q
      simp only at q
      split at q
      · rename_i hi
        rw [nbeq] at hi
        subst hi
        exact out_ok [0, 1, 2, 7, 8] q
      · exact q.elim
    | ret => exact q.elim
def F85_2C (K6 : Value → Value → Value → Value → Value → World → Prop) : Post := fun o t w => match o with | .normal => False | .exit i => (match Nat.beq i 6 with | true => K6 (t 0) (t 1) (t 2) (t 7) (t 8) w | false => False) | .ret => False
def F85_2B (R : Value → Value → Value → Value → Value → Value → World → Prop) (K6 : Value → Value → Value → Value → Value → World → Prop) (x0 : Value) (x1 : Value) (x2 : Value) (x7 : Value) (x8 : Value) (x10 : Value) (w : World) : Prop :=
  rdC x0 fun l1a l1n l1c => rdI .i64 x1 fun n2 => rdI .i64 x2 fun n3 => rdI .i64 x7 fun n4 => rdI .i64 x8 fun n5 => rdI .i64 x10 fun n6 => br (decide ((n6 : Int) < n3)) (drw w fun w7 => ixS 1 l1a l1n n6 fun a8 => ldI .u32 a8 w7 fun n9 => ixS 1 l1a l1n (IntKind.wrap .i64 (n6 - 1)) fun a10 => ldI .u32 a10 w7 fun n11 => Calls Try.prog 86 #[(.int .u32 n9), (.int .u32 n11)] w7 fun e13 w12 => ∃ b14, e13 = .returned (.bool b14) ∧ (br (!b14) (K6 (.slice l1a l1n l1c) (.int .i64 n2) (.int .i64 n3) (.int .i64 n4) (.int .i64 n5) w12) (drw w12 fun w15 => ixS 1 l1a l1n (IntKind.wrap .i64 (n6 - 1)) fun a16 => ldI .u32 a16 w15 fun n17 => ixS 1 l1a l1n n6 fun a18 => ldI .u32 a18 w15 fun n19 => ixS 1 l1a l1n n6 fun a20 => stc a20 (.int .u32 n17) w15 fun w21 => ixS 1 l1a l1n (IntKind.wrap .i64 (n6 - 1)) fun a22 => stc a22 (.int .u32 n19) w21 fun w23 => R (.slice l1a l1n l1c) (.int .i64 n2) (.int .i64 n3) (.int .i64 n4) (.int .i64 n5) (.int .i64 (IntKind.wrap .i64 (n6 + 1))) w23))) (K6 (.slice l1a l1n l1c) (.int .i64 n2) (.int .i64 n3) (.int .i64 n4) (.int .i64 n5) w)
def F85_2 (K6 : Value → Value → Value → Value → Value → World → Prop) : Nat → Value → Value → Value → Value → Value → Value → World → Prop
  | 0 => fun _ _ _ _ _ _ _ => False
  | n + 1 => F85_2B (F85_2 K6 n) K6
def F85_2O (Q : Post) (t : Tm) (w : World) : Prop := ∃ n, F85_2 (fun y0 y1 y2 y7 y8 w => ∀ g, rsh [(0, (.one .slc)), (1, (.one (.int .i64))), (2, (.one (.int .i64))), (7, (.one (.int .i64))), (8, (.one (.int .i64)))] (upds g [(0, y0), (1, y1), (2, y2), (7, y7), (8, y8)]) fun t => Q (.exit 6) t w) n (t 0) (t 1) (t 2) (t 7) (t 8) (t 10) w
theorem F85_2_step (K6 : Value → Value → Value → Value → Value → World → Prop) (n : Nat) (t : Tm) (w : World) : (F85_2 K6 (n + 1) (t 0) (t 1) (t 2) (t 7) (t 8) (t 10) w) = rsh [(0, (.one .slc)), (1, (.one (.int .i64))), (2, (.one (.int .i64))), (7, (.one (.int .i64))), (8, (.one (.int .i64))), (10, (.one (.int .i64)))] t (fun t => vc Try.prog (orcOf []) [0, 0, 1, 0, 1, 1, 1, 1, 1, 1, 0, 0, 1, 0, 0, 1, 0, 1, 1] (getAt F85_code [0, 0, 1, 0, 1, 1, 1, 1, 1, 1, 0, 0, 1, 0, 0, 1, 0, 1, 1]) (fun o t w => match o with | .normal => F85_2 K6 n (t 0) (t 1) (t 2) (t 7) (t 8) (t 10) w | .exit i => F85_2C K6 (.exit i) t w | .ret => F85_2C K6 .ret t w) t w) := by kernel_rfl
theorem F85_2_ok : ∀ Q t w, F85_2O Q t w → W Try.prog Try.f85.ntmps (getAt F85_code [0, 1, 0, 1, 1, 1, 1, 1, 1, 0, 0, 1, 0, 0, 1, 0, 1, 1]) Q t w := by
  intro Q t w ⟨n, h⟩
  refine (W_loop (P := Try.prog) (b := getAt F85_code [0, 0, 1, 0, 1, 1, 1, 1, 1, 1, 0, 0, 1, 0, 0, 1, 0, 1, 1]) (Q := F85_2C (fun y0 y1 y2 y7 y8 w => ∀ g, rsh [(0, (.one .slc)), (1, (.one (.int .i64))), (2, (.one (.int .i64))), (7, (.one (.int .i64))), (8, (.one (.int .i64)))] (upds g [(0, y0), (1, y1), (2, y2), (7, y7), (8, y8)]) fun t => Q (.exit 6) t w)) (G := fun n t w => F85_2 (fun y0 y1 y2 y7 y8 w => ∀ g, rsh [(0, (.one .slc)), (1, (.one (.int .i64))), (2, (.one (.int .i64))), (7, (.one (.int .i64))), (8, (.one (.int .i64)))] (upds g [(0, y0), (1, y1), (2, y2), (7, y7), (8, y8)]) fun t => Q (.exit 6) t w) n (t 0) (t 1) (t 2) (t 7) (t 8) (t 10) w) (fun _ _ h => h) (fun n t w h => ?_) n t w h).mono ?_
  · rw [F85_2_step] at h
    exact vc_sound mixed (orcNil F85_code) _ _ rfl (okC_at F85_code_ok [0, 0, 1, 0, 1, 1, 1, 1, 1, 1, 0, 0, 1, 0, 0, 1, 0, 1, 1]) _ _ _ (rsh_out h)
  · intro o t w q
    cases o with
    | normal => exact q.elim
    | exit i =>
      unfold F85_2C at q
      simp only at q
      split at q
      · rename_i hi
        rw [nbeq] at hi
        subst hi
        exact out_ok [0, 1, 2, 7, 8] q
      · exact q.elim
    | ret => exact q.elim
def F85_3C (Kn : Value → Value → Value → Value → Value → World → Prop) : Post := fun o t w => match o with | .normal => Kn (t 0) (t 1) (t 2) (t 7) (t 8) w | .exit _ => (False) | .ret => False
def F85_3 (Kn : Value → Value → Value → Value → Value → World → Prop) (x0 : Value) (x1 : Value) (x2 : Value) (x7 : Value) (x8 : Value) (w : World) : Prop :=
  rdC x0 fun l1a l1n l1c => rdI .i64 x1 fun n2 => rdI .i64 x2 fun n3 => rdI .i64 x7 fun n4 => rdI .i64 x8 fun n5 => br (decide (((IntKind.wrap .i64 (n3 - n4)) : Int) ≥ 2)) (∃ k14 : Nat, F85_2 (fun y0_5 y1_5 y2_5 y7_5 y8_5 w7 => ∀ _g8 : Tm, rdC y0_5 fun l9a l9n l9c => rdI .i64 y1_5 fun n10 => rdI .i64 y2_5 fun n11 => rdI .i64 y7_5 fun n12 => rdI .i64 y8_5 fun n13 => Kn (.slice l9a l9n l9c) (.int .i64 n10) (.int .i64 n11) (.int .i64 n12) (.int .i64 n13) w7) k14 (.slice l1a l1n l1c) (.int .i64 n2) (.int .i64 n3) (.int .i64 n4) (.int .i64 n5) (.int .i64 (IntKind.wrap .i64 (n4 + 1))) w) (Kn (.slice l1a l1n l1c) (.int .i64 n2) (.int .i64 n3) (.int .i64 n4) (.int .i64 n5) w)
def F85_3O (Q : Post) (t : Tm) (w : World) : Prop := F85_3 (fun y0 y1 y2 y7 y8 w => ∀ g, rsh [(0, (.one .slc)), (1, (.one (.int .i64))), (2, (.one (.int .i64))), (7, (.one (.int .i64))), (8, (.one (.int .i64)))] (upds g [(0, y0), (1, y1), (2, y2), (7, y7), (8, y8)]) fun t => Q .normal t w) (t 0) (t 1) (t 2) (t 7) (t 8) w
theorem F85_3_step (Kn : Value → Value → Value → Value → Value → World → Prop) (t : Tm) (w : World) : (F85_3 Kn (t 0) (t 1) (t 2) (t 7) (t 8) w) = rsh [(0, (.one .slc)), (1, (.one (.int .i64))), (2, (.one (.int .i64))), (7, (.one (.int .i64))), (8, (.one (.int .i64)))] t (fun t => vc Try.prog (orcOf [([0, 1, 0, 1, 1, 1, 1, 1, 1, 0, 0, 1, 0, 0, 1, 0, 1, 1], F85_2O)]) [1, 1, 1, 1, 1, 0, 0, 1, 0, 0, 1, 0, 1, 1] (getAt F85_code [1, 1, 1, 1, 1, 0, 0, 1, 0, 0, 1, 0, 1, 1]) (F85_3C Kn) t w) := by kernel_rfl
theorem F85_3_ok : ∀ Q t w, F85_3O Q t w → W Try.prog Try.f85.ntmps (getAt F85_code [1, 1, 1, 1, 1, 0, 0, 1, 0, 0, 1, 0, 1, 1]) Q t w := by
  intro Q t w h
  unfold F85_3O at h
  rw [F85_3_step] at h
  refine (vc_sound mixed (orcCons (π := [0, 1, 0, 1, 1, 1, 1, 1, 1, 0, 0, 1, 0, 0, 1, 0, 1, 1]) F85_2_ok (orcNil F85_code)) _ _ rfl (okC_at F85_code_ok [1, 1, 1, 1, 1, 0, 0, 1, 0, 0, 1, 0, 1, 1]) _ _ _ (rsh_out h)).mono ?_
  intro o t w q
  cases o with
  | normal => exact out_ok [0, 1, 2, 7, 8] q
  | exit i => exact q.elim
  | ret => exact q.elim
def F85_4C (K2 : Value → Value → Value → Value → Value → World → Prop) : Post := fun o t w => match o with | .normal => False | .exit i => (match Nat.beq i 2 with | true => K2 (t 0) (t 1) (t 2) (t 7) (t 8) w | false => False) | .ret => False
def F85_4B (R : Value → Value → Value → Value → Value → World → Prop) (K2 : Value → Value → Value → Value → Value → World → Prop) (x0 : Value) (x1 : Value) (x2 : Value) (x7 : Value) (x8 : Value) (w : World) : Prop :=
  rdC x0 fun l1a l1n l1c => rdI .i64 x1 fun n2 => rdI .i64 x2 fun n3 => rdI .i64 x7 fun n4 => rdI .i64 x8 fun n5 => drw w fun w6 => br (decide ((n4 : Int) < n3)) (ixS 1 l1a l1n n4 fun a7 => ldI .u32 a7 w6 fun n8 => ixS 1 l1a l1n (IntKind.wrap .i64 (n4 - 1)) fun a9 => ldI .u32 a9 w6 fun n10 => Calls Try.prog 86 #[(.int .u32 n8), (.int .u32 n10)] w6 fun e12 w11 => ∃ b13, e12 = .returned (.bool b13) ∧ (br (!b13) (R (.slice l1a l1n l1c) (.int .i64 n2) (.int .i64 n3) (.int .i64 (IntKind.wrap .i64 (n4 + 1))) (.int .i64 n5) w11) (K2 (.slice l1a l1n l1c) (.int .i64 n2) (.int .i64 n3) (.int .i64 n4) (.int .i64 n5) w11))) (K2 (.slice l1a l1n l1c) (.int .i64 n2) (.int .i64 n3) (.int .i64 n4) (.int .i64 n5) w6)
def F85_4 (K2 : Value → Value → Value → Value → Value → World → Prop) : Nat → Value → Value → Value → Value → Value → World → Prop
  | 0 => fun _ _ _ _ _ _ => False
  | n + 1 => F85_4B (F85_4 K2 n) K2
def F85_4O (Q : Post) (t : Tm) (w : World) : Prop := ∃ n, F85_4 (fun y0 y1 y2 y7 y8 w => ∀ g, rsh [(0, (.one .slc)), (1, (.one (.int .i64))), (2, (.one (.int .i64))), (7, (.one (.int .i64))), (8, (.one (.int .i64)))] (upds g [(0, y0), (1, y1), (2, y2), (7, y7), (8, y8)]) fun t => Q (.exit 2) t w) n (t 0) (t 1) (t 2) (t 7) (t 8) w
theorem F85_4_step (K2 : Value → Value → Value → Value → Value → World → Prop) (n : Nat) (t : Tm) (w : World) : (F85_4 K2 (n + 1) (t 0) (t 1) (t 2) (t 7) (t 8) w) = rsh [(0, (.one .slc)), (1, (.one (.int .i64))), (2, (.one (.int .i64))), (7, (.one (.int .i64))), (8, (.one (.int .i64)))] t (fun t => vc Try.prog (orcOf []) [0, 0, 0, 0, 0, 1, 0, 0, 1, 0, 1, 1] (getAt F85_code [0, 0, 0, 0, 0, 1, 0, 0, 1, 0, 1, 1]) (fun o t w => match o with | .normal => F85_4 K2 n (t 0) (t 1) (t 2) (t 7) (t 8) w | .exit i => F85_4C K2 (.exit i) t w | .ret => F85_4C K2 .ret t w) t w) := by kernel_rfl
theorem F85_4_ok : ∀ Q t w, F85_4O Q t w → W Try.prog Try.f85.ntmps (getAt F85_code [0, 0, 0, 0, 1, 0, 0, 1, 0, 1, 1]) Q t w := by
  intro Q t w ⟨n, h⟩
  refine (W_loop (P := Try.prog) (b := getAt F85_code [0, 0, 0, 0, 0, 1, 0, 0, 1, 0, 1, 1]) (Q := F85_4C (fun y0 y1 y2 y7 y8 w => ∀ g, rsh [(0, (.one .slc)), (1, (.one (.int .i64))), (2, (.one (.int .i64))), (7, (.one (.int .i64))), (8, (.one (.int .i64)))] (upds g [(0, y0), (1, y1), (2, y2), (7, y7), (8, y8)]) fun t => Q (.exit 2) t w)) (G := fun n t w => F85_4 (fun y0 y1 y2 y7 y8 w => ∀ g, rsh [(0, (.one .slc)), (1, (.one (.int .i64))), (2, (.one (.int .i64))), (7, (.one (.int .i64))), (8, (.one (.int .i64)))] (upds g [(0, y0), (1, y1), (2, y2), (7, y7), (8, y8)]) fun t => Q (.exit 2) t w) n (t 0) (t 1) (t 2) (t 7) (t 8) w) (fun _ _ h => h) (fun n t w h => ?_) n t w h).mono ?_
  · rw [F85_4_step] at h
    exact vc_sound mixed (orcNil F85_code) _ _ rfl (okC_at F85_code_ok [0, 0, 0, 0, 0, 1, 0, 0, 1, 0, 1, 1]) _ _ _ (rsh_out h)
  · intro o t w q
    cases o with
    | normal => exact q.elim
    | exit i =>
      unfold F85_4C at q
      simp only at q
      split at q
      · rename_i hi
        rw [nbeq] at hi
        subst hi
        exact out_ok [0, 1, 2, 7, 8] q
      · exact q.elim
    | ret => exact q.elim
def F85_5C (K0 : World → Prop) (Kr : Value → World → Prop) : Post := fun o t w => match o with | .normal => False | .exit i => (match Nat.beq i 0 with | true => K0  w | false => False) | .ret => Kr (t 6) w
def F85_5B (R : Value → Value → Value → Value → Value → World → Prop) (K0 : World → Prop) (Kr : Value → World → Prop) (x0 : Value) (x1 : Value) (x2 : Value) (x7 : Value) (x8 : Value) (w : World) : Prop :=
  rdC x0 fun l1a l1n l1c => rdI .i64 x1 fun n2 => rdI .i64 x2 fun n3 => rdI .i64 x7 fun n4 => rdI .i64 x8 fun n5 => br (decide ((n5 : Int) < 5)) (∃ k48 : Nat, F85_4 (fun y0_5 y1_5 y2_5 y7_5 y8_5 w7 => ∀ _g8 : Tm, rdC y0_5 fun l9a l9n l9c => rdI .i64 y1_5 fun n10 => rdI .i64 y2_5 fun n11 => rdI .i64 y7_5 fun n12 => rdI .i64 y8_5 fun n13 => br (n12 == n11) (Kr (.bool true) w7) (br (decide (((IntKind.wrap .i64 (n11 - n10)) : Int) < 50)) (Kr (.bool false) w7) (drw w7 fun w14 => ixS 1 l9a l9n (IntKind.wrap .i64 (n12 - 1)) fun a15 => ldI .u32 a15 w14 fun n16 => ixS 1 l9a l9n n12 fun a17 => ldI .u32 a17 w14 fun n18 => ixS 1 l9a l9n n12 fun a19 => stc a19 (.int .u32 n16) w14 fun w20 => ixS 1 l9a l9n (IntKind.wrap .i64 (n12 - 1)) fun a21 => stc a21 (.int .u32 n18) w20 fun w22 => br (decide (((IntKind.wrap .i64 (n12 - n10)) : Int) ≥ 2)) (∃ k39 : Nat, F85_1 (fun y0_22 y1_22 y2_22 y7_22 y8_22 w24 => ∀ _g25 : Tm, rdC y0_22 fun l26a l26n l26c => rdI .i64 y1_22 fun n27 => rdI .i64 y2_22 fun n28 => rdI .i64 y7_22 fun n29 => rdI .i64 y8_22 fun n30 => F85_3 (fun y0_30 y1_30 y2_30 y7_30 y8_30 w32 => ∀ _g33 : Tm, rdC y0_30 fun l34a l34n l34c => rdI .i64 y1_30 fun n35 => rdI .i64 y2_30 fun n36 => rdI .i64 y7_30 fun n37 => rdI .i64 y8_30 fun n38 => R (.slice l34a l34n l34c) (.int .i64 n35) (.int .i64 n36) (.int .i64 n37) (.int .i64 (IntKind.wrap .i64 (n38 + 1))) w32) (.slice l26a l26n l26c) (.int .i64 n27) (.int .i64 n28) (.int .i64 n29) (.int .i64 n30) w24) k39 (.slice l9a l9n l9c) (.int .i64 n10) (.int .i64 n11) (.int .i64 n12) (.int .i64 n13) (.int .i64 (IntKind.wrap .i64 (n12 - 1))) w22) (F85_3 (fun y0_39 y1_39 y2_39 y7_39 y8_39 w41 => ∀ _g42 : Tm, rdC y0_39 fun l43a l43n l43c => rdI .i64 y1_39 fun n44 => rdI .i64 y2_39 fun n45 => rdI .i64 y7_39 fun n46 => rdI .i64 y8_39 fun n47 => R (.slice l43a l43n l43c) (.int .i64 n44) (.int .i64 n45) (.int .i64 n46) (.int .i64 (IntKind.wrap .i64 (n47 + 1))) w41) (.slice l9a l9n l9c) (.int .i64 n10) (.int .i64 n11) (.int .i64 n12) (.int .i64 n13) w22)))) k48 (.slice l1a l1n l1c) (.int .i64 n2) (.int .i64 n3) (.int .i64 n4) (.int .i64 n5) w) (K0 w)
def F85_5 (K0 : World → Prop) (Kr : Value → World → Prop) : Nat → Value → Value → Value → Value → Value → World → Prop
  | 0 => fun _ _ _ _ _ _ => False
  | n + 1 => F85_5B (F85_5 K0 Kr n) K0 Kr
def F85_5O (Q : Post) (t : Tm) (w : World) : Prop := ∃ n, F85_5 (fun w => ∀ g, rsh [] (upds g []) fun t => Q (.exit 0) t w) (fun y6 w => ∀ g, rsh [(6, (.one .bool))] (upds g [(6, y6)]) fun t => Q .ret t w) n (t 0) (t 1) (t 2) (t 7) (t 8) w
theorem F85_5_step (K0 : World → Prop) (Kr : Value → World → Prop) (n : Nat) (t : Tm) (w : World) : (F85_5 K0 Kr (n + 1) (t 0) (t 1) (t 2) (t 7) (t 8) w) = rsh [(0, (.one .slc)), (1, (.one (.int .i64))), (2, (.one (.int .i64))), (7, (.one (.int .i64))), (8, (.one (.int .i64)))] t (fun t => vc Try.prog (orcOf [([0, 1, 0, 1, 0, 1, 1, 1, 1, 0, 0, 1, 0, 0, 1, 0, 1, 1], F85_1O), ([0, 1, 0, 1, 1, 1, 1, 1, 1, 0, 0, 1, 0, 0, 1, 0, 1, 1], F85_2O), ([1, 1, 1, 1, 1, 0, 0, 1, 0, 0, 1, 0, 1, 1], F85_3O), ([0, 0, 0, 0, 1, 0, 0, 1, 0, 1, 1], F85_4O)]) [0, 0, 1, 0, 1, 1] (getAt F85_code [0, 0, 1, 0, 1, 1]) (fun o t w => match o with | .normal => F85_5 K0 Kr n (t 0) (t 1) (t 2) (t 7) (t 8) w | .exit i => F85_5C K0 Kr (.exit i) t w | .ret => F85_5C K0 Kr .ret t w) t w) := by kernel_rfl
theorem F85_5_ok : ∀ Q t w, F85_5O Q t w → W Try.prog Try.f85.ntmps (getAt F85_code [0, 1, 0, 1, 1]) Q t w := by
  intro Q t w ⟨n, h⟩
  refine (W_loop (P := Try.prog) (b := getAt F85_code [0, 0, 1, 0, 1, 1]) (Q := F85_5C (fun w => ∀ g, rsh [] (upds g []) fun t => Q (.exit 0) t w) (fun y6 w => ∀ g, rsh [(6, (.one .bool))] (upds g [(6, y6)]) fun t => Q .ret t w)) (G := fun n t w => F85_5 (fun w => ∀ g, rsh [] (upds g []) fun t => Q (.exit 0) t w) (fun y6 w => ∀ g, rsh [(6, (.one .bool))] (upds g [(6, y6)]) fun t => Q .ret t w) n (t 0) (t 1) (t 2) (t 7) (t 8) w) (fun _ _ h => h) (fun n t w h => ?_) n t w h).mono ?_
  · rw [F85_5_step] at h
    exact vc_sound mixed (orcCons (π := [0, 1, 0, 1, 0, 1, 1, 1, 1, 0, 0, 1, 0, 0, 1, 0, 1, 1]) F85_1_ok (orcCons (π := [0, 1, 0, 1, 1, 1, 1, 1, 1, 0, 0, 1, 0, 0, 1, 0, 1, 1]) F85_2_ok (orcCons (π := [1, 1, 1, 1, 1, 0, 0, 1, 0, 0, 1, 0, 1, 1]) F85_3_ok (orcCons (π := [0, 0, 0, 0, 1, 0, 0, 1, 0, 1, 1]) F85_4_ok (orcNil F85_code))))) _ _ rfl (okC_at F85_code_ok [0, 0, 1, 0, 1, 1]) _ _ _ (rsh_out h)
  · intro o t w q
    cases o with
    | normal => exact q.elim
    | exit i =>
      unfold F85_5C at q
      simp only at q
      split at q
      · rename_i hi
        rw [nbeq] at hi
        subst hi
        exact out_ok [] q
      · exact q.elim
    | ret => exact out_ok [6] q
def F85 (x0 : Value) (x1 : Value) (x2 : Value) (w : World) (K : Value → World → Prop) : Prop :=
  rdC x0 fun l1a l1n l1c => rdI .i64 x1 fun n2 => rdI .i64 x2 fun n3 => ∃ k11 : Nat, F85_5 (fun w5 => ∀ _g6 : Tm, K (.bool false) w5) (fun y6_6 w8 => ∀ _g9 : Tm, rdB y6_6 fun b10 => K (.bool b10) w8) k11 (.slice l1a l1n l1c) (.int .i64 n2) (.int .i64 n3) (.int .i64 (IntKind.wrap .i64 (n2 + 1))) (.int .i64 0) w
theorem F85_step (x0 : Value) (x1 : Value) (x2 : Value) (w : World) (K : Value → World → Prop) : (F85 x0 x1 x2 w K) = rsh [(0, (.one .slc)), (1, (.one (.int .i64))), (2, (.one (.int .i64)))] (args0 #[x0, x1, x2]) (fun t => vc Try.prog (orcOf [([0, 1, 0, 1, 0, 1, 1, 1, 1, 0, 0, 1, 0, 0, 1, 0, 1, 1], F85_1O), ([0, 1, 0, 1, 1, 1, 1, 1, 1, 0, 0, 1, 0, 0, 1, 0, 1, 1], F85_2O), ([1, 1, 1, 1, 1, 0, 0, 1, 0, 0, 1, 0, 1, 1], F85_3O), ([0, 0, 0, 0, 1, 0, 0, 1, 0, 1, 1], F85_4O), ([0, 1, 0, 1, 1], F85_5O)]) [] F85_code (retQ Try.prog Try.f85 K) t w) := by kernel_rfl
theorem F85_ok {x0 x1 x2 : Value} {w : World} {K : Value → World → Prop} (h : F85 x0 x1 x2 w K) : Calls Try.prog 85 #[x0, x1, x2] w fun e w' => ∃ v, e = .returned v ∧ K v w' := by
  rw [F85_step] at h
  exact calls_of (c := F85_code) mixed Try.func85 rfl (nlt rfl) (vc_sound mixed (orcCons (π := [0, 1, 0, 1, 0, 1, 1, 1, 1, 0, 0, 1, 0, 0, 1, 0, 1, 1]) F85_1_ok (orcCons (π := [0, 1, 0, 1, 1, 1, 1, 1, 1, 0, 0, 1, 0, 0, 1, 0, 1, 1]) F85_2_ok (orcCons (π := [1, 1, 1, 1, 1, 0, 0, 1, 0, 0, 1, 0, 1, 1]) F85_3_ok (orcCons (π := [0, 0, 0, 0, 1, 0, 0, 1, 0, 1, 1]) F85_4_ok (orcCons (π := [0, 1, 0, 1, 1]) F85_5_ok (orcNil F85_code)))))) F85_code [] rfl F85_code_ok _ _ _ (rsh_out h))

/-! cmp.Less[uint32] -/
noncomputable def F86_code : Code := Try.f86.body.getD .skip
theorem F86_code_ok : okC Try.prog Try.f86.ntmps F86_code = true := by kernel_rfl
def F86 (x0 : Value) (x1 : Value) (w : World) (K : Value → World → Prop) : Prop :=
  rdI .u32 x0 fun n1 => rdI .u32 x1 fun n2 => Calls Try.prog 99 #[(.int .u32 n1)] w fun e4 w3 => ∃ b5, e4 = .returned (.bool b5) ∧ (br b5 (Calls Try.prog 99 #[(.int .u32 n2)] w3 fun e7 w6 => ∃ b8, e7 = .returned (.bool b8) ∧ (br (!b8) (K (.bool true) w6) (K (.bool (decide ((n1 : Int) < n2))) w6))) (K (.bool (decide ((n1 : Int) < n2))) w3))
theorem F86_step (x0 : Value) (x1 : Value) (w : World) (K : Value → World → Prop) : (F86 x0 x1 w K) = rsh [(0, (.one (.int .u32))), (1, (.one (.int .u32)))] (args0 #[x0, x1]) (fun t => vc Try.prog (orcOf []) [] F86_code (retQ Try.prog Try.f86 K) t w) := by kernel_rfl
theorem F86_ok {x0 x1 : Value} {w : World} {K : Value → World → Prop} (h : F86 x0 x1 w K) : Calls Try.prog 86 #[x0, x1] w fun e w' => ∃ v, e = .returned v ∧ K v w' := by
  rw [F86_step] at h
  exact calls_of (c := F86_code) mixed Try.func86 rfl (nlt rfl) (vc_sound mixed (orcNil F86_code) F86_code [] rfl F86_code_ok _ _ _ (rsh_out h))

/-! slices.partitionEqualOrdered[uint32] -/
noncomputable def F87_code : Code := Try.f87.body.getD .skip
theorem F87_code_ok : okC Try.prog Try.f87.ntmps F87_code = true := by kernel_rfl
def F87_1C (K4 : Value → Value → Value → Value → World → Prop) : Post := fun o t w => match o with | .normal => False | .exit i => (match Nat.beq i 4 with | true => K4 (t 0) (t 1) (t 9) (t 10) w | false => False) | .ret => False
def F87_1B (R : Value → Value → Value → Value → World → Prop) (K4 : Value → Value → Value → Value → World → Prop) (x0 : Value) (x1 : Value) (x9 : Value) (x10 : Value) (w : World) : Prop :=
  rdC x0 fun l1a l1n l1c => rdI .i64 x1 fun n2 => rdI .i64 x9 fun n3 => rdI .i64 x10 fun n4 => drw w fun w5 => br (decide ((n3 : Int) ≤ n4)) (ixS 1 l1a l1n n2 fun a6 => ldI .u32 a6 w5 fun n7 => ixS 1 l1a l1n n4 fun a8 => ldI .u32 a8 w5 fun n9 => Calls Try.prog 86 #[(.int .u32 n7), (.int .u32 n9)] w5 fun e11 w10 => ∃ b12, e11 = .returned (.bool b12) ∧ (br b12 (R (.slice l1a l1n l1c) (.int .i64 n2) (.int .i64 n3) (.int .i64 (IntKind.wrap .i64 (n4 - 1))) w10) (K4 (.slice l1a l1n l1c) (.int .i64 n2) (.int .i64 n3) (.int .i64 n4) w10))) (K4 (.slice l1a l1n l1c) (.int .i64 n2) (.int .i64 n3) (.int .i64 n4) w5)
def F87_1 (K4 : Value → Value → Value → Value → World → Prop) : Nat → Value → Value → Value → Value → World → Prop
  | 0 => fun _ _ _ _ _ => False
  | n + 1 => F87_1B (F87_1 K4 n) K4
def F87_1O (Q : Post) (t : Tm) (w : World) : Prop := ∃ n, F87_1 (fun y0 y1 y9 y10 w => ∀ g, rsh [(0, (.one .slc)), (1, (.one (.int .i64))), (9, (.one (.int .i64))), (10, (.one (.int .i64)))] (upds g [(0, y0), (1, y1), (9, y9), (10, y10)]) fun t => Q (.exit 4) t w) n (t 0) (t 1) (t 9) (t 10) w
theorem F87_1_step (K4 : Value → Value → Value → Value → World → Prop) (n : Nat) (t : Tm) (w : World) : (F87_1 K4 (n + 1) (t 0) (t 1) (t 9) (t 10) w) = rsh [(0, (.one .slc)), (1, (.one (.int .i64))), (9, (.one (.int .i64))), (10, (.one (.int .i64)))] t (fun t => vc Try.prog (orcOf []) [0, 0, 0, 1, 0, 0, 0, 0, 1, 1, 1] (getAt F87_code [0, 0, 0, 1, 0, 0, 0, 0, 1, 1, 1]) (fun o t w => match o with | .normal => F87_1 K4 n (t 0) (t 1) (t 9) (t 10) w | .exit i => F87_1C K4 (.exit i) t w | .ret => F87_1C K4 .ret t w) t w) := by kernel_rfl
theorem F87_1_ok : ∀ Q t w, F87_1O Q t w → W Try.prog Try.f87.ntmps (getAt F87_code [0, 0, 1, 0, 0, 0, 0, 1, 1, 1]) Q t w := by
  intro Q t w ⟨n, h⟩
  refine (W_loop (P := Try.prog) (b := getAt F87_code [0, 0, 0, 1, 0, 0, 0, 0, 1, 1, 1]) (Q := F87_1C (fun y0 y1 y9 y10 w => ∀ g, rsh [(0, (.one .slc)), (1, (.one (.int .i64))), (9, (.one (.int .i64))), (10, (.one (.int .i64)))] (upds g [(0, y0), (1, y1), (9, y9), (10, y10)]) fun t => Q (.exit 4) t w)) (G := fun n t w => F87_1 (fun y0 y1 y9 y10 w => ∀ g, rsh [(0, (.one .slc)), (1, (.one (.int .i64))), (9, (.one (.int .i64))), (10, (.one (.int .i64)))] (upds g [(0, y0), (1, y1), (9, y9), (10, y10)]) fun t => Q (.exit 4) t w) n (t 0) (t 1) (t 9) (t 10) w) (fun _ _ h => h) (fun n t w h => ?_) n t w h).mono ?_
  · rw [F87_1_step] at h
    exact vc_sound mixed (orcNil F87_code) _ _ rfl (okC_at F87_code_ok [0, 0, 0, 1, 0, 0, 0, 0, 1, 1, 1]) _ _ _ (rsh_out h)
  · intro o t w q
    cases o with
    | normal => exact q.elim
    | exit i =>
      unfold F87_1C at q
      simp only at q
      split at q
      · rename_i hi
        rw [nbeq] at hi
        subst hi
        exact out_ok [0, 1, 9, 10] q
      · exact q.elim
    | ret => exact q.elim
def F87_2C (K2 : Value → Value → Value → Value → World → Prop) : Post := fun o t w => match o with | .normal => False | .exit i => (match Nat.beq i 2 with | true => K2 (t 0) (t 1) (t 9) (t 10) w | false => False) | .ret => False
def F87_2B (R : Value → Value → Value → Value → World → Prop) (K2 : Value → Value → Value → Value → World → Prop) (x0 : Value) (x1 : Value) (x9 : Value) (x10 : Value) (w : World) : Prop :=
  rdC x0 fun l1a l1n l1c => rdI .i64 x1 fun n2 => rdI .i64 x9 fun n3 => rdI .i64 x10 fun n4 => drw w fun w5 => br (decide ((n3 : Int) ≤ n4)) (ixS 1 l1a l1n n2 fun a6 => ldI .u32 a6 w5 fun n7 => ixS 1 l1a l1n n3 fun a8 => ldI .u32 a8 w5 fun n9 => Calls Try.prog 86 #[(.int .u32 n7), (.int .u32 n9)] w5 fun e11 w10 => ∃ b12, e11 = .returned (.bool b12) ∧ (br (!b12) (R (.slice l1a l1n l1c) (.int .i64 n2) (.int .i64 (IntKind.wrap .i64 (n3 + 1))) (.int .i64 n4) w10) (K2 (.slice l1a l1n l1c) (.int .i64 n2) (.int .i64 n3) (.int .i64 n4) w10))) (K2 (.slice l1a l1n l1c) (.int .i64 n2) (.int .i64 n3) (.int .i64 n4) w5)
def F87_2 (K2 : Value → Value → Value → Value → World → Prop) : Nat → Value → Value → Value → Value → World → Prop
  | 0 => fun _ _ _ _ _ => False
  | n + 1 => F87_2B (F87_2 K2 n) K2
def F87_2O (Q : Post) (t : Tm) (w : World) : Prop := ∃ n, F87_2 (fun y0 y1 y9 y10 w => ∀ g, rsh [(0, (.one .slc)), (1, (.one (.int .i64))), (9, (.one (.int .i64))), (10, (.one (.int .i64)))] (upds g [(0, y0), (1, y1), (9, y9), (10, y10)]) fun t => Q (.exit 2) t w) n (t 0) (t 1) (t 9) (t 10) w
theorem F87_2_step (K2 : Value → Value → Value → Value → World → Prop) (n : Nat) (t : Tm) (w : World) : (F87_2 K2 (n + 1) (t 0) (t 1) (t 9) (t 10) w) = rsh [(0, (.one .slc)), (1, (.one (.int .i64))), (9, (.one (.int .i64))), (10, (.one (.int .i64)))] t (fun t => vc Try.prog (orcOf []) [0, 0, 0, 0, 0, 0, 0, 1, 1, 1] (getAt F87_code [0, 0, 0, 0, 0, 0, 0, 1, 1, 1]) (fun o t w => match o with | .normal => F87_2 K2 n (t 0) (t 1) (t 9) (t 10) w | .exit i => F87_2C K2 (.exit i) t w | .ret => F87_2C K2 .ret t w) t w) := by kernel_rfl
theorem F87_2_ok : ∀ Q t w, F87_2O Q t w → W Try.prog Try.f87.ntmps (getAt F87_code [0, 0, 0, 0, 0, 0, 1, 1, 1]) Q t w := by
  intro Q t w ⟨n, h⟩
  refine (W_loop (P := Try.prog) (b := getAt F87_code [0, 0, 0, 0, 0, 0, 0, 1, 1, 1]) (Q := F87_2C (fun y0 y1 y9 y10 w => ∀ g, rsh [(0, (.one .slc)), (1, (.one (.int .i64))), (9, (.one (.int .i64))), (10, (.one (.int .i64)))] (upds g [(0, y0), (1, y1), (9, y9), (10, y10)]) fun t => Q (.exit 2) t w)) (G := fun n t w => F87_2 (fun y0 y1 y9 y10 w => ∀ g, rsh [(0, (.one .slc)), (1, (.one (.int .i64))), (9, (.one (.int .i64))), (10, (.one (.int .i64)))] (upds g [(0, y0), (1, y1), (9, y9), (10, y10)]) fun t => Q (.exit 2) t w) n (t 0) (t 1) (t 9) (t 10) w) (fun _ _ h => h) (fun n t w h => ?_) n t w h).mono ?_
  · rw [F87_2_step] at h
    exact vc_sound mixed (orcNil F87_code) _ _ rfl (okC_at F87_code_ok [0, 0, 0, 0, 0, 0, 0, 1, 1, 1]) _ _ _ (rsh_out h)
  · intro o t w q
    cases o with
    | normal => exact q.elim
    | exit i =>
      unfold F87_2C at q
      simp only at q
      split at q
      · rename_i hi
        rw [nbeq] at hi
        subst hi
        exact out_ok [0, 1, 9, 10] q
      · exact q.elim
    | ret => exact q.elim
def F87_3C (K0 : Value → World → Prop) : Post := fun o t w => match o with | .normal => False | .exit i => (match Nat.beq i 0 with | true => K0 (t 9) w | false => False) | .ret => False
def F87_3B (R : Value → Value → Value → Value → World → Prop) (K0 : Value → World → Prop) (x0 : Value) (x1 : Value) (x9 : Value) (x10 : Value) (w : World) : Prop :=
  rdC x0 fun l1a l1n l1c => rdI .i64 x1 fun n2 => rdI .i64 x9 fun n3 => rdI .i64 x10 fun n4 => ∃ k29 : Nat, F87_2 (fun y0_4 y1_4 y9_4 y10_4 w6 => ∀ _g7 : Tm, rdC y0_4 fun l8a l8n l8c => rdI .i64 y1_4 fun n9 => rdI .i64 y9_4 fun n10 => rdI .i64 y10_4 fun n11 => ∃ k28 : Nat, F87_1 (fun y0_11 y1_11 y9_11 y10_11 w13 => ∀ _g14 : Tm, rdC y0_11 fun l15a l15n l15c => rdI .i64 y1_11 fun n16 => rdI .i64 y9_11 fun n17 => rdI .i64 y10_11 fun n18 => br (decide ((n17 : Int) > n18)) (K0 (.int .i64 n17) w13) (drw w13 fun w19 => ixS 1 l15a l15n n18 fun a20 => ldI .u32 a20 w19 fun n21 => ixS 1 l15a l15n n17 fun a22 => ldI .u32 a22 w19 fun n23 => ixS 1 l15a l15n n17 fun a24 => stc a24 (.int .u32 n21) w19 fun w25 => ixS 1 l15a l15n n18 fun a26 => stc a26 (.int .u32 n23) w25 fun w27 => R (.slice l15a l15n l15c) (.int .i64 n16) (.int .i64 (IntKind.wrap .i64 (n17 + 1))) (.int .i64 (IntKind.wrap .i64 (n18 - 1))) w27)) k28 (.slice l8a l8n l8c) (.int .i64 n9) (.int .i64 n10) (.int .i64 n11) w6) k29 (.slice l1a l1n l1c) (.int .i64 n2) (.int .i64 n3) (.int .i64 n4) w
def F87_3 (K0 : Value → World → Prop) : Nat → Value → Value → Value → Value → World → Prop
  | 0 => fun _ _ _ _ _ => False
  | n + 1 => F87_3B (F87_3 K0 n) K0
def F87_3O (Q : Post) (t : Tm) (w : World) : Prop := ∃ n, F87_3 (fun y9 w => ∀ g, rsh [(9, (.one (.int .i64)))] (upds g [(9, y9)]) fun t => Q (.exit 0) t w) n (t 0) (t 1) (t 9) (t 10) w
theorem F87_3_step (K0 : Value → World → Prop) (n : Nat) (t : Tm) (w : World) : (F87_3 K0 (n + 1) (t 0) (t 1) (t 9) (t 10) w) = rsh [(0, (.one .slc)), (1, (.one (.int .i64))), (9, (.one (.int .i64))), (10, (.one (.int .i64)))] t (fun t => vc Try.prog (orcOf [([0, 0, 1, 0, 0, 0, 0, 1, 1, 1], F87_1O), ([0, 0, 0, 0, 0, 0, 1, 1, 1], F87_2O)]) [0, 0, 0, 1, 1, 1] (getAt F87_code [0, 0, 0, 1, 1, 1]) (fun o t w => match o with | .normal => F87_3 K0 n (t 0) (t 1) (t 9) (t 10) w | .exit i => F87_3C K0 (.exit i) t w | .ret => F87_3C K0 .ret t w) t w) := by kernel_rfl
theorem F87_3_ok : ∀ Q t w, F87_3O Q t w → W Try.prog Try.f87.ntmps (getAt F87_code [0, 0, 1, 1, 1]) Q t w := by
  intro Q t w ⟨n, h⟩
  refine (W_loop (P := Try.prog) (b := getAt F87_code [0, 0, 0, 1, 1, 1]) (Q := F87_3C (fun y9 w => ∀ g, rsh [(9, (.one (.int .i64)))] (upds g [(9, y9)]) fun t => Q (.exit 0) t w)) (G := fun n t w => F87_3 (fun y9 w => ∀ g, rsh [(9, (.one (.int .i64)))] (upds g [(9, y9)]) fun t => Q (.exit 0) t w) n (t 0) (t 1) (t 9) (t 10) w) (fun _ _ h => h) (fun n t w h => ?_) n t w h).mono ?_
  · rw [F87_3_step] at h
    exact vc_sound mixed (orcCons (π := [0, 0, 1, 0, 0, 0, 0, 1, 1, 1]) F87_1_ok (orcCons (π := [0, 0, 0, 0, 0, 0, 1, 1, 1]) F87_2_ok (orcNil F87_code))) _ _ rfl (okC_at F87_code_ok [0, 0, 0, 1, 1, 1]) _ _ _ (rsh_out h)
  · intro o t w q
    cases o with
    | normal => exact q.elim
    | exit i =>
      unfold F87_3C at q
      simp only at q
      split at q
      · rename_i hi
        rw [nbeq] at hi
        subst hi
        exact out_ok [9] q
      · exact q.elim
    | ret => exact q.elim
def F87 (x0 : Value) (x1 : Value) (x2 : Value) (x3 : Value) (w : World) (K : Value → World → Prop) : Prop :=
  rdC x0 fun l1a l1n l1c => rdI .i64 x1 fun n2 => rdI .i64 x2 fun n3 => rdI .i64 x3 fun n4 => drw w fun w5 => ixS 1 l1a l1n n4 fun a6 => ldI .u32 a6 w5 fun n7 => ixS 1 l1a l1n n2 fun a8 => ldI .u32 a8 w5 fun n9 => ixS 1 l1a l1n n2 fun a10 => stc a10 (.int .u32 n7) w5 fun w11 => ixS 1 l1a l1n n4 fun a12 => stc a12 (.int .u32 n9) w11 fun w13 => ∃ k18 : Nat, F87_3 (fun y9_13 w15 => ∀ _g16 : Tm, rdI .i64 y9_13 fun n17 => K (.int .i64 n17) w15) k18 (.slice l1a l1n l1c) (.int .i64 n2) (.int .i64 (IntKind.wrap .i64 (n2 + 1))) (.int .i64 (IntKind.wrap .i64 (n3 - 1))) w13
theorem F87_step (x0 : Value) (x1 : Value) (x2 : Value) (x3 : Value) (w : World) (K : Value → World → Prop) : (F87 x0 x1 x2 x3 w K) = rsh [(0, (.one .slc)), (1, (.one (.int .i64))), (2, (.one (.int .i64))), (3, (.one (.int .i64)))] (args0 #[x0, x1, x2, x3]) (fun t => vc Try.prog (orcOf [([0, 0, 1, 0, 0, 0, 0, 1, 1, 1], F87_1O), ([0, 0, 0, 0, 0, 0, 1, 1, 1], F87_2O), ([0, 0, 1, 1, 1], F87_3O)]) [] F87_code (retQ Try.prog Try.f87 K) t w) := by kernel_rfl
theorem F87_ok {x0 x1 x2 x3 : Value} {w : World} {K : Value → World → Prop} (h : F87 x0 x1 x2 x3 w K) : Calls Try.prog 87 #[x0, x1, x2, x3] w fun e w' => ∃ v, e = .returned v ∧ K v w' := by
  rw [F87_step] at h
  exact calls_of (c := F87_code) mixed Try.func87 rfl (nlt rfl) (vc_sound mixed (orcCons (π := [0, 0, 1, 0, 0, 0, 0, 1, 1, 1]) F87_1_ok (orcCons (π := [0, 0, 0, 0, 0, 0, 1, 1, 1]) F87_2_ok (orcCons (π := [0, 0, 1, 1, 1]) F87_3_ok (orcNil F87_code)))) F87_code [] rfl F87_code_ok _ _ _ (rsh_out h))

/-! slices.partitionOrdered[uint32] -/
noncomputable def F88_code : Code := Try.f88.body.getD .skip
theorem F88_code_ok : okC Try.prog Try.f88.ntmps F88_code = true := by kernel_rfl
def F88_1C (K8 : Value → Value → Value → Value → World → Prop) : Post := fun o t w => match o with | .normal => False | .exit i => (match Nat.beq i 8 with | true => K8 (t 0) (t 1) (t 10) (t 11) w | false => False) | .ret => False
def F88_1B (R : Value → Value → Value → Value → World → Prop) (K8 : Value → Value → Value → Value → World → Prop) (x0 : Value) (x1 : Value) (x10 : Value) (x11 : Value) (w : World) : Prop :=
  rdC x0 fun l1a l1n l1c => rdI .i64 x1 fun n2 => rdI .i64 x10 fun n3 => rdI .i64 x11 fun n4 => drw w fun w5 => br (decide ((n3 : Int) ≤ n4)) (ixS 1 l1a l1n n4 fun a6 => ldI .u32 a6 w5 fun n7 => ixS 1 l1a l1n n2 fun a8 => ldI .u32 a8 w5 fun n9 => Calls Try.prog 86 #[(.int .u32 n7), (.int .u32 n9)] w5 fun e11 w10 => ∃ b12, e11 = .returned (.bool b12) ∧ (br (!b12) (R (.slice l1a l1n l1c) (.int .i64 n2) (.int .i64 n3) (.int .i64 (IntKind.wrap .i64 (n4 - 1))) w10) (K8 (.slice l1a l1n l1c) (.int .i64 n2) (.int .i64 n3) (.int .i64 n4) w10))) (K8 (.slice l1a l1n l1c) (.int .i64 n2) (.int .i64 n3) (.int .i64 n4) w5)
def F88_1 (K8 : Value → Value → Value → Value → World → Prop) : Nat → Value → Value → Value → Value → World → Prop
  | 0 => fun _ _ _ _ _ => False
  | n + 1 => F88_1B (F88_1 K8 n) K8
def F88_1O (Q : Post) (t : Tm) (w : World) : Prop := ∃ n, F88_1 (fun y0 y1 y10 y11 w => ∀ g, rsh [(0, (.one .slc)), (1, (.one (.int .i64))), (10, (.one (.int .i64))), (11, (.one (.int .i64)))] (upds g [(0, y0), (1, y1), (10, y10), (11, y11)]) fun t => Q (.exit 8) t w) n (t 0) (t 1) (t 10) (t 11) w
theorem F88_1_step (K8 : Value → Value → Value → Value → World → Prop) (n : Nat) (t : Tm) (w : World) : (F88_1 K8 (n + 1) (t 0) (t 1) (t 10) (t 11) w) = rsh [(0, (.one .slc)), (1, (.one (.int .i64))), (10, (.one (.int .i64))), (11, (.one (.int .i64)))] t (fun t => vc Try.prog (orcOf []) [0, 0, 0, 1, 0, 0, 0, 0, 1, 1, 1, 1, 1, 1, 1, 1, 1] (getAt F88_code [0, 0, 0, 1, 0, 0, 0, 0, 1, 1, 1, 1, 1, 1, 1, 1, 1]) (fun o t w => match o with | .normal => F88_1 K8 n (t 0) (t 1) (t 10) (t 11) w | .exit i => F88_1C K8 (.exit i) t w | .ret => F88_1C K8 .ret t w) t w) := by kernel_rfl
theorem F88_1_ok : ∀ Q t w, F88_1O Q t w → W Try.prog Try.f88.ntmps (getAt F88_code [0, 0, 1, 0, 0, 0, 0, 1, 1, 1, 1, 1, 1, 1, 1, 1]) Q t w := by
  intro Q t w ⟨n, h⟩
  refine (W_loop (P := Try.prog) (b := getAt F88_code [0, 0, 0, 1, 0, 0, 0, 0, 1, 1, 1, 1, 1, 1, 1, 1, 1]) (Q := F88_1C (fun y0 y1 y10 y11 w => ∀ g, rsh [(0, (.one .slc)), (1, (.one (.int .i64))), (10, (.one (.int .i64))), (11, (.one (.int .i64)))] (upds g [(0, y0), (1, y1), (10, y10), (11, y11)]) fun t => Q (.exit 8) t w)) (G := fun n t w => F88_1 (fun y0 y1 y10 y11 w => ∀ g, rsh [(0, (.one .slc)), (1, (.one (.int .i64))), (10, (.one (.int .i64))), (11, (.one (.int .i64)))] (upds g [(0, y0), (1, y1), (10, y10), (11, y11)]) fun t => Q (.exit 8) t w) n (t 0) (t 1) (t 10) (t 11) w) (fun _ _ h => h) (fun n t w h => ?_) n t w h).mono ?_
  · rw [F88_1_step] at h
    exact vc_sound mixed (orcNil F88_code) _ _ rfl (okC_at F88_code_ok [0, 0, 0, 1, 0, 0, 0, 0, 1, 1, 1, 1, 1, 1, 1, 1, 1]) _ _ _ (rsh_out h)
  · intro o t w q
    cases o with
    | normal => exact q.elim
    | exit i =>
      unfold F88_1C at q
      simp only at q
      split at q
      · rename_i hi
        rw [nbeq] at hi
        subst hi
        exact out_ok [0, 1, 10, 11] q
      · exact q.elim
    | ret => exact q.elim
def F88_2C (K6 : Value → Value → Value → Value → World → Prop) : Post := fun o t w => match o with | .normal => False | .exit i => (match Nat.beq i 6 with | true => K6 (t 0) (t 1) (t 10) (t 11) w | false => False) | .ret => False
def F88_2B (R : Value → Value → Value → Value → World → Prop) (K6 : Value → Value → Value → Value → World → Prop) (x0 : Value) (x1 : Value) (x10 : Value) (x11 : Value) (w : World) : Prop :=
  rdC x0 fun l1a l1n l1c => rdI .i64 x1 fun n2 => rdI .i64 x10 fun n3 => rdI .i64 x11 fun n4 => drw w fun w5 => br (decide ((n3 : Int) ≤ n4)) (ixS 1 l1a l1n n3 fun a6 => ldI .u32 a6 w5 fun n7 => ixS 1 l1a l1n n2 fun a8 => ldI .u32 a8 w5 fun n9 => Calls Try.prog 86 #[(.int .u32 n7), (.int .u32 n9)] w5 fun e11 w10 => ∃ b12, e11 = .returned (.bool b12) ∧ (br b12 (R (.slice l1a l1n l1c) (.int .i64 n2) (.int .i64 (IntKind.wrap .i64 (n3 + 1))) (.int .i64 n4) w10) (K6 (.slice l1a l1n l1c) (.int .i64 n2) (.int .i64 n3) (.int .i64 n4) w10))) (K6 (.slice l1a l1n l1c) (.int .i64 n2) (.int .i64 n3) (.int .i64 n4) w5)
def F88_2 (K6 : Value → Value → Value → Value → World → Prop) : Nat → Value → Value → Value → Value → World → Prop
  | 0 => fun _ _ _ _ _ => False
  | n + 1 => F88_2B (F88_2 K6 n) K6
def F88_2O (Q : Post) (t : Tm) (w : World) : Prop := ∃ n, F88_2 (fun y0 y1 y10 y11 w => ∀ g, rsh [(0, (.one .slc)), (1, (.one (.int .i64))), (10, (.one (.int .i64))), (11, (.one (.int .i64)))] (upds g [(0, y0), (1, y1), (10, y10), (11, y11)]) fun t => Q (.exit 6) t w) n (t 0) (t 1) (t 10) (t 11) w
theorem F88_2_step (K6 : Value → Value → Value → Value → World → Prop) (n : Nat) (t : Tm) (w : World) : (F88_2 K6 (n + 1) (t 0) (t 1) (t 10) (t 11) w) = rsh [(0, (.one .slc)), (1, (.one (.int .i64))), (10, (.one (.int .i64))), (11, (.one (.int .i64)))] t (fun t => vc Try.prog (orcOf []) [0, 0, 0, 0, 0, 0, 0, 1, 1, 1, 1, 1, 1, 1, 1, 1] (getAt F88_code [0, 0, 0, 0, 0, 0, 0, 1, 1, 1, 1, 1, 1, 1, 1, 1]) (fun o t w => match o with | .normal => F88_2 K6 n (t 0) (t 1) (t 10) (t 11) w | .exit i => F88_2C K6 (.exit i) t w | .ret => F88_2C K6 .ret t w) t w) := by kernel_rfl
theorem F88_2_ok : ∀ Q t w, F88_2O Q t w → W Try.prog Try.f88.ntmps (getAt F88_code [0, 0, 0, 0, 0, 0, 1, 1, 1, 1, 1, 1, 1, 1, 1]) Q t w := by
  intro Q t w ⟨n, h⟩
  refine (W_loop (P := Try.prog) (b := getAt F88_code [0, 0, 0, 0, 0, 0, 0, 1, 1, 1, 1, 1, 1, 1, 1, 1]) (Q := F88_2C (fun y0 y1 y10 y11 w => ∀ g, rsh [(0, (.one .slc)), (1, (.one (.int .i64))), (10, (.one (.int .i64))), (11, (.one (.int .i64)))] (upds g [(0, y0), (1, y1), (10, y10), (11, y11)]) fun t => Q (.exit 6) t w)) (G := fun n t w => F88_2 (fun y0 y1 y10 y11 w => ∀ g, rsh [(0, (.one .slc)), (1, (.one (.int .i64))), (10, (.one (.int .i64))), (11, (.one (.int .i64)))] (upds g [(0, y0), (1, y1), (10, y10), (11, y11)]) fun t => Q (.exit 6) t w) n (t 0) (t 1) (t 10) (t 11) w) (fun _ _ h => h) (fun n t w h => ?_) n t w h).mono ?_
  · rw [F88_2_step] at h
    exact vc_sound mixed (orcNil F88_code) _ _ rfl (okC_at F88_code_ok [0, 0, 0, 0, 0, 0, 0, 1, 1, 1, 1, 1, 1, 1, 1, 1]) _ _ _ (rsh_out h)
  · intro o t w q
    cases o with
    | normal => exact q.elim
    | exit i =>
      unfold F88_2C at q
      simp only at q
      split at q
      · rename_i hi
        rw [nbeq] at hi
        subst hi
        exact out_ok [0, 1, 10, 11] q
      · exact q.elim
    | ret => exact q.elim
def F88_3C (K4 : Value → Value → Value → World → Prop) : Post := fun o t w => match o with | .normal => False | .exit i => (match Nat.beq i 4 with | true => K4 (t 0) (t 1) (t 11) w | false => False) | .ret => False
def F88_3B (R : Value → Value → Value → Value → World → Prop) (K4 : Value → Value → Value → World → Prop) (x0 : Value) (x1 : Value) (x10 : Value) (x11 : Value) (w : World) : Prop :=
  rdC x0 fun l1a l1n l1c => rdI .i64 x1 fun n2 => rdI .i64 x10 fun n3 => rdI .i64 x11 fun n4 => ∃ k29 : Nat, F88_2 (fun y0_4 y1_4 y10_4 y11_4 w6 => ∀ _g7 : Tm, rdC y0_4 fun l8a l8n l8c => rdI .i64 y1_4 fun n9 => rdI .i64 y10_4 fun n10 => rdI .i64 y11_4 fun n11 => ∃ k28 : Nat, F88_1 (fun y0_11 y1_11 y10_11 y11_11 w13 => ∀ _g14 : Tm, rdC y0_11 fun l15a l15n l15c => rdI .i64 y1_11 fun n16 => rdI .i64 y10_11 fun n17 => rdI .i64 y11_11 fun n18 => br (decide ((n17 : Int) > n18)) (K4 (.slice l15a l15n l15c) (.int .i64 n16) (.int .i64 n18) w13) (drw w13 fun w19 => ixS 1 l15a l15n n18 fun a20 => ldI .u32 a20 w19 fun n21 => ixS 1 l15a l15n n17 fun a22 => ldI .u32 a22 w19 fun n23 => ixS 1 l15a l15n n17 fun a24 => stc a24 (.int .u32 n21) w19 fun w25 => ixS 1 l15a l15n n18 fun a26 => stc a26 (.int .u32 n23) w25 fun w27 => R (.slice l15a l15n l15c) (.int .i64 n16) (.int .i64 (IntKind.wrap .i64 (n17 + 1))) (.int .i64 (IntKind.wrap .i64 (n18 - 1))) w27)) k28 (.slice l8a l8n l8c) (.int .i64 n9) (.int .i64 n10) (.int .i64 n11) w6) k29 (.slice l1a l1n l1c) (.int .i64 n2) (.int .i64 n3) (.int .i64 n4) w
def F88_3 (K4 : Value → Value → Value → World → Prop) : Nat → Value → Value → Value → Value → World → Prop
  | 0 => fun _ _ _ _ _ => False
  | n + 1 => F88_3B (F88_3 K4 n) K4
def F88_3O (Q : Post) (t : Tm) (w : World) : Prop := ∃ n, F88_3 (fun y0 y1 y11 w => ∀ g, rsh [(0, (.one .slc)), (1, (.one (.int .i64))), (11, (.one (.int .i64)))] (upds g [(0, y0), (1, y1), (11, y11)]) fun t => Q (.exit 4) t w) n (t 0) (t 1) (t 10) (t 11) w
theorem F88_3_step (K4 : Value → Value → Value → World → Prop) (n : Nat) (t : Tm) (w : World) : (F88_3 K4 (n + 1) (t 0) (t 1) (t 10) (t 11) w) = rsh [(0, (.one .slc)), (1, (.one (.int .i64))), (10, (.one (.int .i64))), (11, (.one (.int .i64)))] t (fun t => vc Try.prog (orcOf [([0, 0, 1, 0, 0, 0, 0, 1, 1, 1, 1, 1, 1, 1, 1, 1], F88_1O), ([0, 0, 0, 0, 0, 0, 1, 1, 1, 1, 1, 1, 1, 1, 1], F88_2O)]) [0, 0, 0, 1, 1, 1, 1, 1, 1, 1, 1, 1] (getAt F88_code [0, 0, 0, 1, 1, 1, 1, 1, 1, 1, 1, 1]) (fun o t w => match o with | .normal => F88_3 K4 n (t 0) (t 1) (t 10) (t 11) w | .exit i => F88_3C K4 (.exit i) t w | .ret => F88_3C K4 .ret t w) t w) := by kernel_rfl
theorem F88_3_ok : ∀ Q t w, F88_3O Q t w → W Try.prog Try.f88.ntmps (getAt F88_code [0, 0, 1, 1, 1, 1, 1, 1, 1, 1, 1]) Q t w := by
  intro Q t w ⟨n, h⟩
  refine (W_loop (P := Try.prog) (b := getAt F88_code [0, 0, 0, 1, 1, 1, 1, 1, 1, 1, 1, 1]) (Q := F88_3C (fun y0 y1 y11 w => ∀ g, rsh [(0, (.one .slc)), (1, (.one (.int .i64))), (11, (.one (.int .i64)))] (upds g [(0, y0), (1, y1), (11, y11)]) fun t => Q (.exit 4) t w)) (G := fun n t w => F88_3 (fun y0 y1 y11 w => ∀ g, rsh [(0, (.one .slc)), (1, (.one (.int .i64))), (11, (.one (.int .i64)))] (upds g [(0, y0), (1, y1), (11, y11)]) fun t => Q (.exit 4) t w) n (t 0) (t 1) (t 10) (t 11) w) (fun _ _ h => h) (fun n t w h => ?_) n t w h).mono ?_
  · rw [F88_3_step] at h
    exact vc_sound mixed (orcCons (π := [0, 0, 1, 0, 0, 0, 0, 1, 1, 1, 1, 1, 1, 1, 1, 1]) F88_1_ok (orcCons (π := [0, 0, 0, 0, 0, 0, 1, 1, 1, 1, 1, 1, 1, 1, 1]) F88_2_ok (orcNil F88_code))) _ _ rfl (okC_at F88_code_ok [0, 0, 0, 1, 1, 1, 1, 1, 1, 1, 1, 1]) _ _ _ (rsh_out h)
  · intro o t w q
    cases o with
    | normal => exact q.elim
    | exit i =>
      unfold F88_3C at q
      simp only at q
      split at q
      · rename_i hi
        rw [nbeq] at hi
        subst hi
        exact out_ok [0, 1, 11] q
      · exact q.elim
    | ret => exact q.elim
def F88_4C (K2 : Value → Value → Value → Value → World → Prop) : Post := fun o t w => match o with | .normal => False | .exit i => (match Nat.beq i 2 with | true => K2 (t 0) (t 1) (t 10) (t 11) w | false => False) | .ret => False
def F88_4B (R : Value → Value → Value → Value → World → Prop) (K2 : Value → Value → Value → Value → World → Prop) (x0 : Value) (x1 : Value) (x10 : Value) (x11 : Value) (w : World) : Prop :=
  rdC x0 fun l1a l1n l1c => rdI .i64 x1 fun n2 => rdI .i64 x10 fun n3 => rdI .i64 x11 fun n4 => drw w fun w5 => br (decide ((n3 : Int) ≤ n4)) (ixS 1 l1a l1n n4 fun a6 => ldI .u32 a6 w5 fun n7 => ixS 1 l1a l1n n2 fun a8 => ldI .u32 a8 w5 fun n9 => Calls Try.prog 86 #[(.int .u32 n7), (.int .u32 n9)] w5 fun e11 w10 => ∃ b12, e11 = .returned (.bool b12) ∧ (br (!b12) (R (.slice l1a l1n l1c) (.int .i64 n2) (.int .i64 n3) (.int .i64 (IntKind.wrap .i64 (n4 - 1))) w10) (K2 (.slice l1a l1n l1c) (.int .i64 n2) (.int .i64 n3) (.int .i64 n4) w10))) (K2 (.slice l1a l1n l1c) (.int .i64 n2) (.int .i64 n3) (.int .i64 n4) w5)
def F88_4 (K2 : Value → Value → Value → Value → World → Prop) : Nat → Value → Value → Value → Value → World → Prop
  | 0 => fun _ _ _ _ _ => False
  | n + 1 => F88_4B (F88_4 K2 n) K2
def F88_4O (Q : Post) (t : Tm) (w : World) : Prop := ∃ n, F88_4 (fun y0 y1 y10 y11 w => ∀ g, rsh [(0, (.one .slc)), (1, (.one (.int .i64))), (10, (.one (.int .i64))), (11, (.one (.int .i64)))] (upds g [(0, y0), (1, y1), (10, y10), (11, y11)]) fun t => Q (.exit 2) t w) n (t 0) (t 1) (t 10) (t 11) w
theorem F88_4_step (K2 : Value → Value → Value → Value → World → Prop) (n : Nat) (t : Tm) (w : World) : (F88_4 K2 (n + 1) (t 0) (t 1) (t 10) (t 11) w) = rsh [(0, (.one .slc)), (1, (.one (.int .i64))), (10, (.one (.int .i64))), (11, (.one (.int .i64)))] t (fun t => vc Try.prog (orcOf []) [0, 0, 0, 1, 1, 1, 1] (getAt F88_code [0, 0, 0, 1, 1, 1, 1]) (fun o t w => match o with | .normal => F88_4 K2 n (t 0) (t 1) (t 10) (t 11) w | .exit i => F88_4C K2 (.exit i) t w | .ret => F88_4C K2 .ret t w) t w) := by kernel_rfl
theorem F88_4_ok : ∀ Q t w, F88_4O Q t w → W Try.prog Try.f88.ntmps (getAt F88_code [0, 0, 1, 1, 1, 1]) Q t w := by
  intro Q t w ⟨n, h⟩
  refine (W_loop (P := Try.prog) (b := getAt F88_code [0, 0, 0, 1, 1, 1, 1]) (Q := F88_4C (fun y0 y1 y10 y11 w => ∀ g, rsh [(0, (.one .slc)), (1, (.one (.int .i64))), (10, (.one (.int .i64))), (11, (.one (.int .i64)))] (upds g [(0, y0), (1, y1), (10, y10), (11, y11)]) fun t => Q (.exit 2) t w)) (G := fun n t w => F88_4 (fun y0 y1 y10 y11 w => ∀ g, rsh [(0, (.one .slc)), (1, (.one (.int .i64))), (10, (.one (.int .i64))), (11, (.one (.int .i64)))] (upds g [(0, y0), (1, y1), (10, y10), (11, y11)]) fun t => Q (.exit 2) t w) n (t 0) (t 1) (t 10) (t 11) w) (fun _ _ h => h) (fun n t w h => ?_) n t w h).mono ?_
  · rw [F88_4_step] at h
    exact vc_sound mixed (orcNil F88_code) _ _ rfl (okC_at F88_code_ok [0, 0, 0, 1, 1, 1, 1]) _ _ _ (rsh_out h)
  · intro o t w q
    cases o with
    | normal => exact q.elim
    | exit i =>
      unfold F88_4C at q
      simp only at q
      split at q
      · rename_i hi
        rw [nbeq] at hi
        subst hi
        exact out_ok [0, 1, 10, 11] q
      · exact q.elim
    | ret => exact q.elim
def F88_5C (K0 : Value → Value → Value → Value → World → Prop) : Post := fun o t w => match o with | .normal => False | .exit i => (match Nat.beq i 0 with | true => K0 (t 0) (t 1) (t 10) (t 11) w | false => False) | .ret => False
def F88_5B (R : Value → Value → Value → Value → World → Prop) (K0 : Value → Value → Value → Value → World → Prop) (x0 : Value) (x1 : Value) (x10 : Value) (x11 : Value) (w : World) : Prop :=
  rdC x0 fun l1a l1n l1c => rdI .i64 x1 fun n2 => rdI .i64 x10 fun n3 => rdI .i64 x11 fun n4 => drw w fun w5 => br (decide ((n3 : Int) ≤ n4)) (ixS 1 l1a l1n n3 fun a6 => ldI .u32 a6 w5 fun n7 => ixS 1 l1a l1n n2 fun a8 => ldI .u32 a8 w5 fun n9 => Calls Try.prog 86 #[(.int .u32 n7), (.int .u32 n9)] w5 fun e11 w10 => ∃ b12, e11 = .returned (.bool b12) ∧ (br b12 (R (.slice l1a l1n l1c) (.int .i64 n2) (.int .i64 (IntKind.wrap .i64 (n3 + 1))) (.int .i64 n4) w10) (K0 (.slice l1a l1n l1c) (.int .i64 n2) (.int .i64 n3) (.int .i64 n4) w10))) (K0 (.slice l1a l1n l1c) (.int .i64 n2) (.int .i64 n3) (.int .i64 n4) w5)
def F88_5 (K0 : Value → Value → Value → Value → World → Prop) : Nat → Value → Value → Value → Value → World → Prop
  | 0 => fun _ _ _ _ _ => False
  | n + 1 => F88_5B (F88_5 K0 n) K0
def F88_5O (Q : Post) (t : Tm) (w : World) : Prop := ∃ n, F88_5 (fun y0 y1 y10 y11 w => ∀ g, rsh [(0, (.one .slc)), (1, (.one (.int .i64))), (10, (.one (.int .i64))), (11, (.one (.int .i64)))] (upds g [(0, y0), (1, y1), (10, y10), (11, y11)]) fun t => Q (.exit 0) t w) n (t 0) (t 1) (t 10) (t 11) w
theorem F88_5_step (K0 : Value → Value → Value → Value → World → Prop) (n : Nat) (t : Tm) (w : World) : (F88_5 K0 (n + 1) (t 0) (t 1) (t 10) (t 11) w) = rsh [(0, (.one .slc)), (1, (.one (.int .i64))), (10, (.one (.int .i64))), (11, (.one (.int .i64)))] t (fun t => vc Try.prog (orcOf []) [0, 0, 0, 1, 1, 1] (getAt F88_code [0, 0, 0, 1, 1, 1]) (fun o t w => match o with | .normal => F88_5 K0 n (t 0) (t 1) (t 10) (t 11) w | .exit i => F88_5C K0 (.exit i) t w | .ret => F88_5C K0 .ret t w) t w) := by kernel_rfl
theorem F88_5_ok : ∀ Q t w, F88_5O Q t w → W Try.prog Try.f88.ntmps (getAt F88_code [0, 0, 1, 1, 1]) Q t w := by
  intro Q t w ⟨n, h⟩
  refine (W_loop (P := Try.prog) (b := getAt F88_code [0, 0, 0, 1, 1, 1]) (Q := F88_5C (fun y0 y1 y10 y11 w => ∀ g, rsh [(0, (.one .slc)), (1, (.one (.int .i64))), (10, (.one (.int .i64))), (11, (.one (.int .i64)))] (upds g [(0, y0), (1, y1), (10, y10), (11, y11)]) fun t => Q (.exit 0) t w)) (G := fun n t w => F88_5 (fun y0 y1 y10 y11 w => ∀ g, rsh [(0, (.one .slc)), (1, (.one (.int .i64))), (10, (.one (.int .i64))), (11, (.one (.int .i64)))] (upds g [(0, y0), (1, y1), (10, y10), (11, y11)]) fun t => Q (.exit 0) t w) n (t 0) (t 1) (t 10) (t 11) w) (fun _ _ h => h) (fun n t w h => ?_) n t w h).mono ?_
  · rw [F88_5_step] at h
    exact vc_sound mixed (orcNil F88_code) _ _ rfl (okC_at F88_code_ok [0, 0, 0, 1, 1, 1]) _ _ _ (rsh_out h)
  · intro o t w q
    cases o with
    | normal => exact q.elim
    | exit i =>
      unfold F88_5C at q
      simp only at q
      split at q
      · rename_i hi
        rw [nbeq] at hi
        subst hi
        exact out_ok [0, 1, 10, 11] q
      · exact q.elim
    | ret => exact q.elim
def F88 (x0 : Value) (x1 : Value) (x2 : Value) (x3 : Value) (w : World) (K : Value → World → Prop) : Prop :=
  rdC x0 fun l1a l1n l1c => rdI .i64 x1 fun n2 => rdI .i64 x2 fun n3 => rdI .i64 x3 fun n4 => drw w fun w5 => ixS 1 l1a l1n n4 fun a6 => ldI .u32 a6 w5 fun n7 => ixS 1 l1a l1n n2 fun a8 => ldI .u32 a8 w5 fun n9 => ixS 1 l1a l1n n2 fun a10 => stc a10 (.int .u32 n7) w5 fun w11 => ixS 1 l1a l1n n4 fun a12 => stc a12 (.int .u32 n9) w11 fun w13 => ∃ k63 : Nat, F88_5 (fun y0_13 y1_13 y10_13 y11_13 w15 => ∀ _g16 : Tm, rdC y0_13 fun l17a l17n l17c => rdI .i64 y1_13 fun n18 => rdI .i64 y10_13 fun n19 => rdI .i64 y11_13 fun n20 => ∃ k62 : Nat, F88_4 (fun y0_20 y1_20 y10_20 y11_20 w22 => ∀ _g23 : Tm, rdC y0_20 fun l24a l24n l24c => rdI .i64 y1_20 fun n25 => rdI .i64 y10_20 fun n26 => rdI .i64 y11_20 fun n27 => br (decide ((n26 : Int) > n27)) (drw w22 fun w28 => ixS 1 l24a l24n n25 fun a29 => ldI .u32 a29 w28 fun n30 => ixS 1 l24a l24n n27 fun a31 => ldI .u32 a31 w28 fun n32 => ixS 1 l24a l24n n27 fun a33 => stc a33 (.int .u32 n30) w28 fun w34 => ixS 1 l24a l24n n25 fun a35 => stc a35 (.int .u32 n32) w34 fun w36 => K (.tuple #[(.int .i64 n27), (.bool true)]) w36) (drw w22 fun w37 => ixS 1 l24a l24n n27 fun a38 => ldI .u32 a38 w37 fun n39 => ixS 1 l24a l24n n26 fun a40 => ldI .u32 a40 w37 fun n41 => ixS 1 l24a l24n n26 fun a42 => stc a42 (.int .u32 n39) w37 fun w43 => ixS 1 l24a l24n n27 fun a44 => stc a44 (.int .u32 n41) w43 fun w45 => ∃ k61 : Nat, F88_3 (fun y0_45 y1_45 y11_45 w47 => ∀ _g48 : Tm, rdC y0_45 fun l49a l49n _ => rdI .i64 y1_45 fun n50 => rdI .i64 y11_45 fun n51 => drw w47 fun w52 => ixS 1 l49a l49n n50 fun a53 => ldI .u32 a53 w52 fun n54 => ixS 1 l49a l49n n51 fun a55 => ldI .u32 a55 w52 fun n56 => ixS 1 l49a l49n n51 fun a57 => stc a57 (.int .u32 n54) w52 fun w58 => ixS 1 l49a l49n n50 fun a59 => stc a59 (.int .u32 n56) w58 fun w60 => K (.tuple #[(.int .i64 n51), (.bool false)]) w60) k61 (.slice l24a l24n l24c) (.int .i64 n25) (.int .i64 (IntKind.wrap .i64 (n26 + 1))) (.int .i64 (IntKind.wrap .i64 (n27 - 1))) w45)) k62 (.slice l17a l17n l17c) (.int .i64 n18) (.int .i64 n19) (.int .i64 n20) w15) k63 (.slice l1a l1n l1c) (.int .i64 n2) (.int .i64 (IntKind.wrap .i64 (n2 + 1))) (.int .i64 (IntKind.wrap .i64 (n3 - 1))) w13
theorem F88_step (x0 : Value) (x1 : Value) (x2 : Value) (x3 : Value) (w : World) (K : Value → World → Prop) : (F88 x0 x1 x2 x3 w K) = rsh [(0, (.one .slc)), (1, (.one (.int .i64))), (2, (.one (.int .i64))), (3, (.one (.int .i64)))] (args0 #[x0, x1, x2, x3]) (fun t => vc Try.prog (orcOf [([0, 0, 1, 0, 0, 0, 0, 1, 1, 1, 1, 1, 1, 1, 1, 1], F88_1O), ([0, 0, 0, 0, 0, 0, 1, 1, 1, 1, 1, 1, 1, 1, 1], F88_2O), ([0, 0, 1, 1, 1, 1, 1, 1, 1, 1, 1], F88_3O), ([0, 0, 1, 1, 1, 1], F88_4O), ([0, 0, 1, 1, 1], F88_5O)]) [] F88_code (retQ Try.prog Try.f88 K) t w) := by kernel_rfl
theorem F88_ok {x0 x1 x2 x3 : Value} {w : World} {K : Value → World → Prop} (h : F88 x0 x1 x2 x3 w K) : Calls Try.prog 88 #[x0, x1, x2, x3] w fun e w' => ∃ v, e = .returned v ∧ K v w' := by
  rw [F88_step] at h
  exact calls_of (c := F88_code) mixed Try.func88 rfl (nlt rfl) (vc_sound mixed (orcCons (π := [0, 0, 1, 0, 0, 0, 0, 1, 1, 1, 1, 1, 1, 1, 1, 1]) F88_1_ok (orcCons (π := [0, 0, 0, 0, 0, 0, 1, 1, 1, 1, 1, 1, 1, 1, 1]) F88_2_ok (orcCons (π := [0, 0, 1, 1, 1, 1, 1, 1, 1, 1, 1]) F88_3_ok (orcCons (π := [0, 0, 1, 1, 1, 1]) F88_4_ok (orcCons (π := [0, 0, 1, 1, 1]) F88_5_ok (orcNil F88_code)))))) F88_code [] rfl F88_code_ok _ _ _ (rsh_out h))

/-! slices.nextPowerOfTwo -/
noncomputable def F92_code : Code := Try.f92.body.getD .skip
theorem F92_code_ok : okC Try.prog Try.f92.ntmps F92_code = true := by kernel_rfl
def F92 (x0 : Value) (w : World) (K : Value → World → Prop) : Prop :=
  rdI .i64 x0 fun n1 => Calls Try.prog 57 #[(.int .u64 (IntKind.wrap .u64 (n1)))] w fun e3 w2 => ∃ n4, e3 = .returned (.int .i64 n4) ∧ (shc n4 fun h5 => K (.int .u64 (IntKind.wrap .u64 (1 * 2 ^ (min h5 (IntKind.bits .u64))))) w2)
theorem F92_step (x0 : Value) (w : World) (K : Value → World → Prop) : (F92 x0 w K) = rsh [(0, (.one (.int .i64)))] (args0 #[x0]) (fun t => vc Try.prog (orcOf []) [] F92_code (retQ Try.prog Try.f92 K) t w) := by kernel_rfl
theorem F92_ok {x0 : Value} {w : World} {K : Value → World → Prop} (h : F92 x0 w K) : Calls Try.prog 92 #[x0] w fun e w' => ∃ v, e = .returned v ∧ K v w' := by
  rw [F92_step] at h
  exact calls_of (c := F92_code) mixed Try.func92 rfl (nlt rfl) (vc_sound mixed (orcNil F92_code) F92_code [] rfl F92_code_ok _ _ _ (rsh_out h))

/-! (*slices.xorshift).Next -/
noncomputable def F93_code : Code := Try.f93.body.getD .skip
theorem F93_code_ok : okC Try.prog Try.f93.ntmps F93_code = true := by kernel_rfl
def F93 (x0 : Value) (w : World) (K : Value → World → Prop) : Prop :=
  rdP x0 fun p1 => drw w fun w2 => nn p1 fun a3 => ldI .u64 a3 w2 fun n4 => nn p1 fun a5 => ldI .u64 a5 w2 fun n6 => nn p1 fun a7 => stc a7 (.int .u64 (bitI .xor .u64 n4 (IntKind.wrap .u64 (n6 * 2 ^ (min 13 (IntKind.bits .u64)))))) w2 fun w8 => drw w8 fun w9 => nn p1 fun a10 => ldI .u64 a10 w9 fun n11 => nn p1 fun a12 => ldI .u64 a12 w9 fun n13 => nn p1 fun a14 => stc a14 (.int .u64 (bitI .xor .u64 n11 (Int.fdiv n13 (2 ^ (min 7 (IntKind.bits .u64)))))) w9 fun w15 => drw w15 fun w16 => nn p1 fun a17 => ldI .u64 a17 w16 fun n18 => nn p1 fun a19 => ldI .u64 a19 w16 fun n20 => nn p1 fun a21 => stc a21 (.int .u64 (bitI .xor .u64 n18 (IntKind.wrap .u64 (n20 * 2 ^ (min 17 (IntKind.bits .u64)))))) w16 fun w22 => nn p1 fun a23 => ldI .u64 a23 w22 fun n24 => K (.int .u64 n24) w22
theorem F93_step (x0 : Value) (w : World) (K : Value → World → Prop) : (F93 x0 w K) = rsh [(0, (.one .ptr))] (args0 #[x0]) (fun t => vc Try.prog (orcOf []) [] F93_code (retQ Try.prog Try.f93 K) t w) := by kernel_rfl
theorem F93_ok {x0 : Value} {w : World} {K : Value → World → Prop} (h : F93 x0 w K) : Calls Try.prog 93 #[x0] w fun e w' => ∃ v, e = .returned v ∧ K v w' := by
  rw [F93_step] at h
  exact calls_of (c := F93_code) mixed Try.func93 rfl (nlt rfl) (vc_sound mixed (orcNil F93_code) F93_code [] rfl F93_code_ok _ _ _ (rsh_out h))

/-! slices.siftDownOrdered[uint32] -/
noncomputable def F96_code : Code := Try.f96.body.getD .skip
theorem F96_code_ok : okC Try.prog Try.f96.ntmps F96_code = true := by kernel_rfl
def F96_1C (Kn : Value → Value → Value → Value → World → Prop) (Kr : World → Prop) : Post := fun o t w => match o with | .normal => Kn (t 0) (t 2) (t 3) (t 8) w | .exit _ => (False) | .ret => Kr  w
def F96_1 (Kn : Value → Value → Value → Value → World → Prop) (Kr : World → Prop) (x0 : Value) (x2 : Value) (x3 : Value) (x8 : Value) (x9 : Value) (w : World) : Prop :=
  rdC x0 fun l1a l1n l1c => rdI .i64 x2 fun n2 => rdI .i64 x3 fun n3 => rdI .i64 x8 fun n4 => rdI .i64 x9 fun n5 => drw w fun w6 => ixS 1 l1a l1n (IntKind.wrap .i64 (n3 + n4)) fun a7 => ldI .u32 a7 w6 fun n8 => ixS 1 l1a l1n (IntKind.wrap .i64 (n3 + n5)) fun a9 => ldI .u32 a9 w6 fun n10 => Calls Try.prog 86 #[(.int .u32 n8), (.int .u32 n10)] w6 fun e12 w11 => ∃ b13, e12 = .returned (.bool b13) ∧ (br (!b13) (Kr w11) (drw w11 fun w14 => ixS 1 l1a l1n (IntKind.wrap .i64 (n3 + n5)) fun a15 => ldI .u32 a15 w14 fun n16 => ixS 1 l1a l1n (IntKind.wrap .i64 (n3 + n4)) fun a17 => ldI .u32 a17 w14 fun n18 => ixS 1 l1a l1n (IntKind.wrap .i64 (n3 + n4)) fun a19 => stc a19 (.int .u32 n16) w14 fun w20 => ixS 1 l1a l1n (IntKind.wrap .i64 (n3 + n5)) fun a21 => stc a21 (.int .u32 n18) w20 fun w22 => Kn (.slice l1a l1n l1c) (.int .i64 n2) (.int .i64 n3) (.int .i64 n5) w22))
def F96_1O (Q : Post) (t : Tm) (w : World) : Prop := F96_1 (fun y0 y2 y3 y8 w => ∀ g, rsh [(0, (.one .slc)), (2, (.one (.int .i64))), (3, (.one (.int .i64))), (8, (.one (.int .i64)))] (upds g [(0, y0), (2, y2), (3, y3), (8, y8)]) fun t => Q .normal t w) (fun w => ∀ g, rsh [] (upds g []) fun t => Q .ret t w) (t 0) (t 2) (t 3) (t 8) (t 9) w
theorem F96_1_step (Kn : Value → Value → Value → Value → World → Prop) (Kr : World → Prop) (t : Tm) (w : World) : (F96_1 Kn Kr (t 0) (t 2) (t 3) (t 8) (t 9) w) = rsh [(0, (.one .slc)), (2, (.one (.int .i64))), (3, (.one (.int .i64))), (8, (.one (.int .i64))), (9, (.one (.int .i64)))] t (fun t => vc Try.prog (orcOf []) [1, 1, 1, 0, 0, 0, 1] (getAt F96_code [1, 1, 1, 0, 0, 0, 1]) (F96_1C Kn Kr) t w) := by kernel_rfl
theorem F96_1_ok : ∀ Q t w, F96_1O Q t w → W Try.prog Try.f96.ntmps (getAt F96_code [1, 1, 1, 0, 0, 0, 1]) Q t w := by
  intro Q t w h
  unfold F96_1O at h
  rw [F96_1_step] at h
  refine (vc_sound mixed (orcNil F96_code) _ _ rfl (okC_at F96_code_ok [1, 1, 1, 0, 0, 0, 1]) _ _ _ (rsh_out h)).mono ?_
  intro o t w q
  cases o with
  | normal => exact out_ok [0, 2, 3, 8] q
  | exit i => exact q.elim
  | ret => exact out_ok [] q
def F96_2C (K0 : World → Prop) (Kr : World → Prop) : Post := fun o _ w => match o with | .normal => False | .exit i => (match Nat.beq i 0 with | true => K0  w | false => False) | .ret => Kr  w
def F96_2B (R : Value → Value → Value → Value → World → Prop) (K0 : World → Prop) (Kr : World → Prop) (x0 : Value) (x2 : Value) (x3 : Value) (x8 : Value) (w : World) : Prop :=
  rdC x0 fun l1a l1n l1c => rdI .i64 x2 fun n2 => rdI .i64 x3 fun n3 => rdI .i64 x8 fun n4 => br (decide (((IntKind.wrap .i64 ((IntKind.wrap .i64 (2 * n4)) + 1)) : Int) ≥ n2)) (K0 w) (drw w fun w5 => br (decide (((IntKind.wrap .i64 ((IntKind.wrap .i64 ((IntKind.wrap .i64 (2 * n4)) + 1)) + 1)) : Int) < n2)) (ixS 1 l1a l1n (IntKind.wrap .i64 (n3 + (IntKind.wrap .i64 ((IntKind.wrap .i64 (2 * n4)) + 1)))) fun a6 => ldI .u32 a6 w5 fun n7 => ixS 1 l1a l1n (IntKind.wrap .i64 ((IntKind.wrap .i64 (n3 + (IntKind.wrap .i64 ((IntKind.wrap .i64 (2 * n4)) + 1)))) + 1)) fun a8 => ldI .u32 a8 w5 fun n9 => Calls Try.prog 86 #[(.int .u32 n7), (.int .u32 n9)] w5 fun e11 w10 => ∃ b12, e11 = .returned (.bool b12) ∧ (br b12 (F96_1 (fun y0_12 y2_12 y3_12 y8_12 w14 => ∀ _g15 : Tm, rdC y0_12 fun l16a l16n l16c => rdI .i64 y2_12 fun n17 => rdI .i64 y3_12 fun n18 => rdI .i64 y8_12 fun n19 => R (.slice l16a l16n l16c) (.int .i64 n17) (.int .i64 n18) (.int .i64 n19) w14) (fun w21 => ∀ _g22 : Tm, Kr w21) (.slice l1a l1n l1c) (.int .i64 n2) (.int .i64 n3) (.int .i64 n4) (.int .i64 (IntKind.wrap .i64 ((IntKind.wrap .i64 ((IntKind.wrap .i64 (2 * n4)) + 1)) + 1))) w10) (F96_1 (fun y0_22 y2_22 y3_22 y8_22 w24 => ∀ _g25 : Tm, rdC y0_22 fun l26a l26n l26c => rdI .i64 y2_22 fun n27 => rdI .i64 y3_22 fun n28 => rdI .i64 y8_22 fun n29 => R (.slice l26a l26n l26c) (.int .i64 n27) (.int .i64 n28) (.int .i64 n29) w24) (fun w31 => ∀ _g32 : Tm, Kr w31) (.slice l1a l1n l1c) (.int .i64 n2) (.int .i64 n3) (.int .i64 n4) (.int .i64 (IntKind.wrap .i64 ((IntKind.wrap .i64 (2 * n4)) + 1))) w10))) (F96_1 (fun y0_32 y2_32 y3_32 y8_32 w34 => ∀ _g35 : Tm, rdC y0_32 fun l36a l36n l36c => rdI .i64 y2_32 fun n37 => rdI .i64 y3_32 fun n38 => rdI .i64 y8_32 fun n39 => R (.slice l36a l36n l36c) (.int .i64 n37) (.int .i64 n38) (.int .i64 n39) w34) (fun w41 => ∀ _g42 : Tm, Kr w41) (.slice l1a l1n l1c) (.int .i64 n2) (.int .i64 n3) (.int .i64 n4) (.int .i64 (IntKind.wrap .i64 ((IntKind.wrap .i64 (2 * n4)) + 1))) w5))
def F96_2 (K0 : World → Prop) (Kr : World → Prop) : Nat → Value → Value → Value → Value → World → Prop
  | 0 => fun _ _ _ _ _ => False
  | n + 1 => F96_2B (F96_2 K0 Kr n) K0 Kr
def F96_2O (Q : Post) (t : Tm) (w : World) : Prop := ∃ n, F96_2 (fun w => ∀ g, rsh [] (upds g []) fun t => Q (.exit 0) t w) (fun w => ∀ g, rsh [] (upds g []) fun t => Q .ret t w) n (t 0) (t 2) (t 3) (t 8) w
theorem F96_2_step (K0 : World → Prop) (Kr : World → Prop) (n : Nat) (t : Tm) (w : World) : (F96_2 K0 Kr (n + 1) (t 0) (t 2) (t 3) (t 8) w) = rsh [(0, (.one .slc)), (2, (.one (.int .i64))), (3, (.one (.int .i64))), (8, (.one (.int .i64)))] t (fun t => vc Try.prog (orcOf [([1, 1, 1, 0, 0, 0, 1], F96_1O)]) [0, 0, 1] (getAt F96_code [0, 0, 1]) (fun o t w => match o with | .normal => F96_2 K0 Kr n (t 0) (t 2) (t 3) (t 8) w | .exit i => F96_2C K0 Kr (.exit i) t w | .ret => F96_2C K0 Kr .ret t w) t w) := by kernel_rfl
theorem F96_2_ok : ∀ Q t w, F96_2O Q t w → W Try.prog Try.f96.ntmps (getAt F96_code [0, 1]) Q t w := by
  intro Q t w ⟨n, h⟩
  refine (W_loop (P := Try.prog) (b := getAt F96_code [0, 0, 1]) (Q := F96_2C (fun w => ∀ g, rsh [] (upds g []) fun t => Q (.exit 0) t w) (fun w => ∀ g, rsh [] (upds g []) fun t => Q .ret t w)) (G := fun n t w => F96_2 (fun w => ∀ g, rsh [] (upds g []) fun t => Q (.exit 0) t w) (fun w => ∀ g, rsh [] (upds g []) fun t => Q .ret t w) n (t 0) (t 2) (t 3) (t 8) w) (fun _ _ h => h) (fun n t w h => ?_) n t w h).mono ?_
  · rw [F96_2_step] at h
    exact vc_sound mixed (orcCons (π := [1, 1, 1, 0, 0, 0, 1]) F96_1_ok (orcNil F96_code)) _ _ rfl (okC_at F96_code_ok [0, 0, 1]) _ _ _ (rsh_out h)
  · intro o t w q
    cases o with
    | normal => exact q.elim
    | exit i =>
      unfold F96_2C at q
      simp only at q
      split at q
      · rename_i hi
        rw [nbeq] at hi
        subst hi
        exact out_ok [] q
      · exact q.elim
    | ret => exact out_ok [] q
def F96 (x0 : Value) (x1 : Value) (x2 : Value) (x3 : Value) (w : World) (K : Value → World → Prop) : Prop :=
  rdC x0 fun l1a l1n l1c => rdI .i64 x1 fun n2 => rdI .i64 x2 fun n3 => rdI .i64 x3 fun n4 => ∃ k11 : Nat, F96_2 (fun w6 => ∀ _g7 : Tm, K (.tuple #[]) w6) (fun w9 => ∀ _g10 : Tm, K (.tuple #[]) w9) k11 (.slice l1a l1n l1c) (.int .i64 n3) (.int .i64 n4) (.int .i64 n2) w
theorem F96_step (x0 : Value) (x1 : Value) (x2 : Value) (x3 : Value) (w : World) (K : Value → World → Prop) : (F96 x0 x1 x2 x3 w K) = rsh [(0, (.one .slc)), (1, (.one (.int .i64))), (2, (.one (.int .i64))), (3, (.one (.int .i64)))] (args0 #[x0, x1, x2, x3]) (fun t => vc Try.prog (orcOf [([1, 1, 1, 0, 0, 0, 1], F96_1O), ([0, 1], F96_2O)]) [] F96_code (retQ Try.prog Try.f96 K) t w) := by kernel_rfl
theorem F96_ok {x0 x1 x2 x3 : Value} {w : World} {K : Value → World → Prop} (h : F96 x0 x1 x2 x3 w K) : Calls Try.prog 96 #[x0, x1, x2, x3] w fun e w' => ∃ v, e = .returned v ∧ K v w' := by
  rw [F96_step] at h
  exact calls_of (c := F96_code) mixed Try.func96 rfl (nlt rfl) (vc_sound mixed (orcCons (π := [1, 1, 1, 0, 0, 0, 1]) F96_1_ok (orcCons (π := [0, 1]) F96_2_ok (orcNil F96_code))) F96_code [] rfl F96_code_ok _ _ _ (rsh_out h))

/-! slices.medianAdjacentOrdered[uint32] -/
noncomputable def F97_code : Code := Try.f97.body.getD .skip
theorem F97_code_ok : okC Try.prog Try.f97.ntmps F97_code = true := by kernel_rfl
def F97 (x0 : Value) (x1 : Value) (x2 : Value) (w : World) (K : Value → World → Prop) : Prop :=
  rdC x0 fun l1a l1n l1c => rdI .i64 x1 fun n2 => rdP x2 fun p3 => Calls Try.prog 98 #[(.slice l1a l1n l1c), (.int .i64 (IntKind.wrap .i64 (n2 - 1))), (.int .i64 n2), (.int .i64 (IntKind.wrap .i64 (n2 + 1))), (.pointer p3)] w fun e5 w4 => ∃ n6, e5 = .returned (.int .i64 n6) ∧ (K (.int .i64 n6) w4)
theorem F97_step (x0 : Value) (x1 : Value) (x2 : Value) (w : World) (K : Value → World → Prop) : (F97 x0 x1 x2 w K) = rsh [(0, (.one .slc)), (1, (.one (.int .i64))), (2, (.one .ptr))] (args0 #[x0, x1, x2]) (fun t => vc Try.prog (orcOf []) [] F97_code (retQ Try.prog Try.f97 K) t w) := by kernel_rfl
theorem F97_ok {x0 x1 x2 : Value} {w : World} {K : Value → World → Prop} (h : F97 x0 x1 x2 w K) : Calls Try.prog 97 #[x0, x1, x2] w fun e w' => ∃ v, e = .returned v ∧ K v w' := by
  rw [F97_step] at h
  exact calls_of (c := F97_code) mixed Try.func97 rfl (nlt rfl) (vc_sound mixed (orcNil F97_code) F97_code [] rfl F97_code_ok _ _ _ (rsh_out h))

/-! slices.medianOrdered[uint32] -/
noncomputable def F98_code : Code := Try.f98.body.getD .skip
theorem F98_code_ok : okC Try.prog Try.f98.ntmps F98_code = true := by kernel_rfl
def F98 (x0 : Value) (x1 : Value) (x2 : Value) (x3 : Value) (x4 : Value) (w : World) (K : Value → World → Prop) : Prop :=
  rdC x0 fun l1a l1n l1c => rdI .i64 x1 fun n2 => rdI .i64 x2 fun n3 => rdI .i64 x3 fun n4 => rdP x4 fun p5 => Calls Try.prog 101 #[(.slice l1a l1n l1c), (.int .i64 n2), (.int .i64 n3), (.pointer p5)] w fun e7 w6 => ∃ n8, ∃ n9, e7 = .returned (.tuple #[(.int .i64 n8), (.int .i64 n9)]) ∧ (Calls Try.prog 101 #[(.slice l1a l1n l1c), (.int .i64 n9), (.int .i64 n4), (.pointer p5)] w6 fun e11 w10 => ∃ n12, ∃ n13, e11 = .returned (.tuple #[(.int .i64 n12), (.int .i64 n13)]) ∧ (Calls Try.prog 101 #[(.slice l1a l1n l1c), (.int .i64 n8), (.int .i64 n12), (.pointer p5)] w10 fun e15 w14 => ∃ n16, ∃ n17, e15 = .returned (.tuple #[(.int .i64 n16), (.int .i64 n17)]) ∧ (K (.int .i64 n17) w14)))
theorem F98_step (x0 : Value) (x1 : Value) (x2 : Value) (x3 : Value) (x4 : Value) (w : World) (K : Value → World → Prop) : (F98 x0 x1 x2 x3 x4 w K) = rsh [(0, (.one .slc)), (1, (.one (.int .i64))), (2, (.one (.int .i64))), (3, (.one (.int .i64))), (4, (.one .ptr))] (args0 #[x0, x1, x2, x3, x4]) (fun t => vc Try.prog (orcOf []) [] F98_code (retQ Try.prog Try.f98 K) t w) := by kernel_rfl
theorem F98_ok {x0 x1 x2 x3 x4 : Value} {w : World} {K : Value → World → Prop} (h : F98 x0 x1 x2 x3 x4 w K) : Calls Try.prog 98 #[x0, x1, x2, x3, x4] w fun e w' => ∃ v, e = .returned v ∧ K v w' := by
  rw [F98_step] at h
  exact calls_of (c := F98_code) mixed Try.func98 rfl (nlt rfl) (vc_sound mixed (orcNil F98_code) F98_code [] rfl F98_code_ok _ _ _ (rsh_out h))

/-! cmp.isNaN[uint32] -/
noncomputable def F99_code : Code := Try.f99.body.getD .skip
theorem F99_code_ok : okC Try.prog Try.f99.ntmps F99_code = true := by kernel_rfl
def F99 (x0 : Value) (w : World) (K : Value → World → Prop) : Prop :=
  rdI .u32 x0 fun n1 => K (.bool (n1 != n1)) w
theorem F99_step (x0 : Value) (w : World) (K : Value → World → Prop) : (F99 x0 w K) = rsh [(0, (.one (.int .u32)))] (args0 #[x0]) (fun t => vc Try.prog (orcOf []) [] F99_code (retQ Try.prog Try.f99 K) t w) := by kernel_rfl
theorem F99_ok {x0 : Value} {w : World} {K : Value → World → Prop} (h : F99 x0 w K) : Calls Try.prog 99 #[x0] w fun e w' => ∃ v, e = .returned v ∧ K v w' := by
  rw [F99_step] at h
  exact calls_of (c := F99_code) mixed Try.func99 rfl (nlt rfl) (vc_sound mixed (orcNil F99_code) F99_code [] rfl F99_code_ok _ _ _ (rsh_out h))

/-! slices.order2Ordered[uint32] -/
noncomputable def F101_code : Code := Try.f101.body.getD .skip
theorem F101_code_ok : okC Try.prog Try.f101.ntmps F101_code = true := by kernel_rfl
def F101 (x0 : Value) (x1 : Value) (x2 : Value) (x3 : Value) (w : World) (K : Value → World → Prop) : Prop :=
  rdC x0 fun l1a l1n _ => rdI .i64 x1 fun n2 => rdI .i64 x2 fun n3 => rdP x3 fun p4 => drw w fun w5 => ixS 1 l1a l1n n3 fun a6 => ldI .u32 a6 w5 fun n7 => ixS 1 l1a l1n n2 fun a8 => ldI .u32 a8 w5 fun n9 => Calls Try.prog 86 #[(.int .u32 n7), (.int .u32 n9)] w5 fun e11 w10 => ∃ b12, e11 = .returned (.bool b12) ∧ (br b12 (nn p4 fun a13 => ldI .i64 a13 w10 fun n14 => nn p4 fun a15 => stc a15 (.int .i64 (IntKind.wrap .i64 (n14 + 1))) w10 fun w16 => K (.tuple #[(.int .i64 n3), (.int .i64 n2)]) w16) (K (.tuple #[(.int .i64 n2), (.int .i64 n3)]) w10))
theorem F101_step (x0 : Value) (x1 : Value) (x2 : Value) (x3 : Value) (w : World) (K : Value → World → Prop) : (F101 x0 x1 x2 x3 w K) = rsh [(0, (.one .slc)), (1, (.one (.int .i64))), (2, (.one (.int .i64))), (3, (.one .ptr))] (args0 #[x0, x1, x2, x3]) (fun t => vc Try.prog (orcOf []) [] F101_code (retQ Try.prog Try.f101 K) t w) := by kernel_rfl
theorem F101_ok {x0 x1 x2 x3 : Value} {w : World} {K : Value → World → Prop} (h : F101 x0 x1 x2 x3 w K) : Calls Try.prog 101 #[x0, x1, x2, x3] w fun e w' => ∃ v, e = .returned v ∧ K v w' := by
  rw [F101_step] at h
  exact calls_of (c := F101_code) mixed Try.func101 rfl (nlt rfl) (vc_sound mixed (orcNil F101_code) F101_code [] rfl F101_code_ok _ _ _ (rsh_out h))
end Go.Proofs.Ytaflmpbeonoilaa
