/- Own text: part of the shallow reading of the code and of the contracts that are proved over it. -/
import Derived.Test.YtmliokbonkndaaaObF0
namespace Go.Proofs.Ytmliokbonkndaaa
open Go Go.Sh
set_option maxRecDepth 100000
/-! (*ropewalk/outbox.Box).acked -/
noncomputable def F34_code : Code := Try.f34.body.getD .skip
theorem F34_code_ok : okC Try.prog Try.f34.ntmps F34_code = true := by kernel_rfl
def F34_1C (K3 : Value → Value → Value → Value → Value → Value → Value → World → Prop) (Kn : Value → Value → Value → Value → Value → Value → Value → World → Prop) : Post := fun o t w => match o with | .normal => Kn (t 2) (t 4) (t 7) (t 8) (t 36) (t 37) (t 38) w | .exit i => (match Nat.beq i 3 with | true => K3 (t 2) (t 4) (t 7) (t 8) (t 36) (t 37) (t 38) w | false => False) | .ret => False
def F34_1 (K3 : Value → Value → Value → Value → Value → Value → Value → World → Prop) (Kn : Value → Value → Value → Value → Value → Value → Value → World → Prop) (x2 : Value) (x4 : Value) (x7 : Value) (x8 : Value) (x10 : Value) (x11 : Value) (x12 : Value) (x36 : Value) (x37 : Value) (x38 : Value) (w : World) : Prop :=
  rdI .i64 x2 fun n1 => rdA x4 fun a2 => rdC x7 fun l3a l3n l3c => rdC x8 fun l4a l4n l4c => rdI .i64 x10 fun n5 => rdP x11 fun p6 => rdP x12 fun p7 => rdC x36 fun l8a l8n l8c => rdI .i64 x37 fun n9 => rdI .i64 x38 fun n10 => ldC (a2.add 2) w fun l11a l11n _ => ixS 1 l11a l11n n5 fun a12 => ldB a12 w fun b13 => br (!b13) (K3 (.int .i64 n1) (.pointer (some a2)) (.slice l3a l3n l3c) (.slice l4a l4n l4c) (.slice l8a l8n l8c) (.int .i64 n9) (.int .i64 n10) w) (drw w fun w14 => ∃ w15 : World, Pres w15 w14 ∧ (nn p7 fun a16 => ldI .i64 (a16.add 0) w15 fun n17 => Calls Try.prog 60 #[(.pointer p6)] w14 fun e19 w18 => ∃ n20, e19 = .returned (.int .i64 n20) ∧ (Pres w15 w18 ∧ (nn p7 fun a21 => stc (a21.add 0) (.int .i64 (IntKind.wrap .i64 (n17 + n20))) w18 fun w22 => nn p6 fun a23 => ldI .i64 ((a23.add 0).add 2) w22 fun n24 => br (n24 == 1) (nn p6 fun a25 => ldI .i64 ((a25.add 0).add 3) w22 fun n26 => nn p7 fun a27 => stc (a27.add 2) (.int .i64 (if ((IntKind.wrap .i64 (n1 - n26)) : Int) > 0 then (IntKind.wrap .i64 (n1 - n26)) else 0)) w22 fun w28 => Kn (.int .i64 n1) (.pointer (some a2)) (.slice l3a l3n l3c) (.slice l4a l4n l4c) (.slice l8a l8n l8c) (.int .i64 n9) (.int .i64 n10) w28) (Kn (.int .i64 n1) (.pointer (some a2)) (.slice l3a l3n l3c) (.slice l4a l4n l4c) (.slice l8a l8n l8c) (.int .i64 n9) (.int .i64 n10) w22)))))
def F34_1O (Q : Post) (t : Tm) (w : World) : Prop := F34_1 (fun y2 y4 y7 y8 y36 y37 y38 w => ∀ g, rsh [(2, (.one (.int .i64))), (4, (.one .adr)), (7, (.one .slc)), (8, (.one .slc)), (36, (.one .slc)), (37, (.one (.int .i64))), (38, (.one (.int .i64)))] (upds g [(2, y2), (4, y4), (7, y7), (8, y8), (36, y36), (37, y37), (38, y38)]) fun t => Q (.exit 3) t w) (fun y2 y4 y7 y8 y36 y37 y38 w => ∀ g, rsh [(2, (.one (.int .i64))), (4, (.one .adr)), (7, (.one .slc)), (8, (.one .slc)), (36, (.one .slc)), (37, (.one (.int .i64))), (38, (.one (.int .i64)))] (upds g [(2, y2), (4, y4), (7, y7), (8, y8), (36, y36), (37, y37), (38, y38)]) fun t => Q .normal t w) (t 2) (t 4) (t 7) (t 8) (t 10) (t 11) (t 12) (t 36) (t 37) (t 38) w
theorem F34_1_step (K3 : Value → Value → Value → Value → Value → Value → Value → World → Prop) (Kn : Value → Value → Value → Value → Value → Value → Value → World → Prop) (t : Tm) (w : World) : (F34_1 K3 Kn (t 2) (t 4) (t 7) (t 8) (t 10) (t 11) (t 12) (t 36) (t 37) (t 38) w) = rsh [(2, (.one (.int .i64))), (4, (.one .adr)), (7, (.one .slc)), (8, (.one .slc)), (10, (.one (.int .i64))), (11, (.one .ptr)), (12, (.one .ptr)), (36, (.one .slc)), (37, (.one (.int .i64))), (38, (.one (.int .i64)))] t (fun t => vc Try.prog (orcOf []) [1, 1, 1, 1, 0, 0, 1, 1, 0, 0, 1, 0, 1, 1, 1, 1] (getAt F34_code [1, 1, 1, 1, 0, 0, 1, 1, 0, 0, 1, 0, 1, 1, 1, 1]) (F34_1C K3 Kn) t w) := by kernel_rfl
theorem F34_1_ok : ∀ Q t w, F34_1O Q t w → W Try.prog Try.f34.ntmps (getAt F34_code [1, 1, 1, 1, 0, 0, 1, 1, 0, 0, 1, 0, 1, 1, 1, 1]) Q t w := by
  intro Q t w h
  unfold F34_1O at h
  rw [F34_1_step] at h
  refine (vc_sound mixed (orcNil F34_code) _ _ rfl (okC_at F34_code_ok [1, 1, 1, 1, 0, 0, 1, 1, 0, 0, 1, 0, 1, 1, 1, 1]) _ _ _ (rsh_out h)).mono ?_
  intro o t w q
  cases o with
  | normal => exact out_ok [2, 4, 7, 8, 36, 37, 38] q
  | exit i =>
      unfold F34_1C at q
      simp only at q
      split at q
      · rename_i hi
        rw [nbeq] at hi
        subst hi
        exact out_ok [2, 4, 7, 8, 36, 37, 38] q
      · exact q.elim
  | ret => exact q.elim
def F34_2C (K2 : Value → World → Prop) : Post := fun o t w => match o with | .normal => False | .exit i => (match Nat.beq i 2 with | true => K2 (t 7) w | false => False) | .ret => False
def F34_2B (R : Value → Value → Value → Value → Value → Value → Value → World → Prop) (K2 : Value → World → Prop) (x2 : Value) (x4 : Value) (x7 : Value) (x8 : Value) (x36 : Value) (x37 : Value) (x38 : Value) (w : World) : Prop :=
  rdI .i64 x2 fun n1 => rdA x4 fun a2 => rdC x7 fun l3a l3n l3c => rdC x8 fun l4a l4n l4c => rdC x36 fun l5a l5n l5c => rdI .i64 x37 fun n6 => rdI .i64 x38 fun n7 => br (decide ((n7 : Int) < n6)) (ixS 1 l5a l5n n7 fun a8 => ldP a8 w fun p9 => Calls Try.prog 59 #[(.pointer p9)] w fun e11 w10 => ∃ b12, e11 = .returned (.bool b12) ∧ (br (!b12) (R (.int .i64 n1) (.pointer (some a2)) (.slice l3a l3n l3c) (.slice l4a l4n l4c) (.slice l5a l5n l5c) (.int .i64 n6) (.int .i64 (IntKind.wrap .i64 (n7 + 1))) w10) (nn p9 fun a13 => ldI .i64 ((a13.add 0).add 1) w10 fun n14 => ixS 4 l3a l3n n14 fun a15 => nn p9 fun a16 => ldI .i64 ((a16.add 0).add 1) w10 fun n17 => ixS 1 l4a l4n n17 fun a18 => ldB a18 w10 fun b19 => br (!b19) (drw w10 fun w20 => nn p9 fun a21 => ldI .i64 ((a21.add 0).add 1) w20 fun n22 => ldC (a2.add 2) w20 fun l23a l23n _ => ixS 1 l23a l23n n7 fun a24 => ldB a24 w20 fun b25 => ixS 1 l4a l4n n22 fun a26 => stc a26 (.bool true) w20 fun w27 => stc (a15.add 1) (.bool b25) w27 fun w28 => F34_1 (fun y2_28 y4_28 y7_28 y8_28 y36_28 y37_28 y38_28 w30 => ∀ _g31 : Tm, rdI .i64 y2_28 fun n32 => rdA y4_28 fun a33 => rdC y7_28 fun l34a l34n l34c => rdC y8_28 fun l35a l35n l35c => rdC y36_28 fun l36a l36n l36c => rdI .i64 y37_28 fun n37 => rdI .i64 y38_28 fun n38 => R (.int .i64 n32) (.pointer (some a33)) (.slice l34a l34n l34c) (.slice l35a l35n l35c) (.slice l36a l36n l36c) (.int .i64 n37) (.int .i64 (IntKind.wrap .i64 (n38 + 1))) w30) (fun y2_38 y4_38 y7_38 y8_38 y36_38 y37_38 y38_38 w40 => ∀ _g41 : Tm, rdI .i64 y2_38 fun n42 => rdA y4_38 fun a43 => rdC y7_38 fun l44a l44n l44c => rdC y8_38 fun l45a l45n l45c => rdC y36_38 fun l46a l46n l46c => rdI .i64 y37_38 fun n47 => rdI .i64 y38_38 fun n48 => R (.int .i64 n42) (.pointer (some a43)) (.slice l44a l44n l44c) (.slice l45a l45n l45c) (.slice l46a l46n l46c) (.int .i64 n47) (.int .i64 (IntKind.wrap .i64 (n48 + 1))) w40) (.int .i64 n1) (.pointer (some a2)) (.slice l3a l3n l3c) (.slice l4a l4n l4c) (.int .i64 n7) (.pointer p9) (.pointer (some a15)) (.slice l5a l5n l5c) (.int .i64 n6) (.int .i64 n7) w28) (F34_1 (fun y2_48 y4_48 y7_48 y8_48 y36_48 y37_48 y38_48 w50 => ∀ _g51 : Tm, rdI .i64 y2_48 fun n52 => rdA y4_48 fun a53 => rdC y7_48 fun l54a l54n l54c => rdC y8_48 fun l55a l55n l55c => rdC y36_48 fun l56a l56n l56c => rdI .i64 y37_48 fun n57 => rdI .i64 y38_48 fun n58 => R (.int .i64 n52) (.pointer (some a53)) (.slice l54a l54n l54c) (.slice l55a l55n l55c) (.slice l56a l56n l56c) (.int .i64 n57) (.int .i64 (IntKind.wrap .i64 (n58 + 1))) w50) (fun y2_58 y4_58 y7_58 y8_58 y36_58 y37_58 y38_58 w60 => ∀ _g61 : Tm, rdI .i64 y2_58 fun n62 => rdA y4_58 fun a63 => rdC y7_58 fun l64a l64n l64c => rdC y8_58 fun l65a l65n l65c => rdC y36_58 fun l66a l66n l66c => rdI .i64 y37_58 fun n67 => rdI .i64 y38_58 fun n68 => R (.int .i64 n62) (.pointer (some a63)) (.slice l64a l64n l64c) (.slice l65a l65n l65c) (.slice l66a l66n l66c) (.int .i64 n67) (.int .i64 (IntKind.wrap .i64 (n68 + 1))) w60) (.int .i64 n1) (.pointer (some a2)) (.slice l3a l3n l3c) (.slice l4a l4n l4c) (.int .i64 n7) (.pointer p9) (.pointer (some a15)) (.slice l5a l5n l5c) (.int .i64 n6) (.int .i64 n7) w10)))) (K2 (.slice l3a l3n l3c) w)
def F34_2 (K2 : Value → World → Prop) : Nat → Value → Value → Value → Value → Value → Value → Value → World → Prop
  | 0 => fun _ _ _ _ _ _ _ _ => False
  | n + 1 => F34_2B (F34_2 K2 n) K2
def F34_2O (Q : Post) (t : Tm) (w : World) : Prop := ∃ n, F34_2 (fun y7 w => ∀ g, rsh [(7, (.one .slc))] (upds g [(7, y7)]) fun t => Q (.exit 2) t w) n (t 2) (t 4) (t 7) (t 8) (t 36) (t 37) (t 38) w
theorem F34_2_step (K2 : Value → World → Prop) (n : Nat) (t : Tm) (w : World) : (F34_2 K2 (n + 1) (t 2) (t 4) (t 7) (t 8) (t 36) (t 37) (t 38) w) = rsh [(2, (.one (.int .i64))), (4, (.one .adr)), (7, (.one .slc)), (8, (.one .slc)), (36, (.one .slc)), (37, (.one (.int .i64))), (38, (.one (.int .i64)))] t (fun t => vc Try.prog (orcOf [([1, 1, 1, 1, 0, 0, 1, 1, 0, 0, 1, 0, 1, 1, 1, 1], F34_1O)]) [0, 0, 1, 0, 1, 1, 1, 1] (getAt F34_code [0, 0, 1, 0, 1, 1, 1, 1]) (fun o t w => match o with | .normal => F34_2 K2 n (t 2) (t 4) (t 7) (t 8) (t 36) (t 37) (t 38) w | .exit i => F34_2C K2 (.exit i) t w | .ret => F34_2C K2 .ret t w) t w) := by kernel_rfl
theorem F34_2_ok : ∀ Q t w, F34_2O Q t w → W Try.prog Try.f34.ntmps (getAt F34_code [0, 1, 0, 1, 1, 1, 1]) Q t w := by
  intro Q t w ⟨n, h⟩
  refine (W_loop (P := Try.prog) (b := getAt F34_code [0, 0, 1, 0, 1, 1, 1, 1]) (Q := F34_2C (fun y7 w => ∀ g, rsh [(7, (.one .slc))] (upds g [(7, y7)]) fun t => Q (.exit 2) t w)) (G := fun n t w => F34_2 (fun y7 w => ∀ g, rsh [(7, (.one .slc))] (upds g [(7, y7)]) fun t => Q (.exit 2) t w) n (t 2) (t 4) (t 7) (t 8) (t 36) (t 37) (t 38) w) (fun _ _ h => h) (fun n t w h => ?_) n t w h).mono ?_
  · rw [F34_2_step] at h
    exact vc_sound mixed (orcCons (π := [1, 1, 1, 1, 0, 0, 1, 1, 0, 0, 1, 0, 1, 1, 1, 1]) F34_1_ok (orcNil F34_code)) _ _ rfl (okC_at F34_code_ok [0, 0, 1, 0, 1, 1, 1, 1]) _ _ _ (rsh_out h)
  · intro o t w q
    cases o with
    | normal => exact q.elim
    | exit i =>
      unfold F34_2C at q
      simp only at q
      split at q
      · rename_i hi
        rw [nbeq] at hi
        subst hi
        exact out_ok [7] q
      · exact q.elim
    | ret => exact q.elim
def F34_3C (K0 : Value → Value → Value → Value → Value → World → Prop) : Post := fun o t w => match o with | .normal => False | .exit i => (match Nat.beq i 0 with | true => K0 (t 0) (t 2) (t 4) (t 7) (t 8) w | false => False) | .ret => False
def F34_3B (R : Value → Value → Value → Value → Value → Value → Value → World → Prop) (K0 : Value → Value → Value → Value → Value → World → Prop) (x0 : Value) (x2 : Value) (x4 : Value) (x7 : Value) (x8 : Value) (x24 : Value) (x25 : Value) (w : World) : Prop :=
  rdP x0 fun p1 => rdI .i64 x2 fun n2 => rdA x4 fun a3 => rdC x7 fun l4a l4n l4c => rdC x8 fun l5a l5n l5c => rdI .i64 x24 fun n6 => rdI .i64 x25 fun n7 => br (decide ((n7 : Int) < n6)) (ixS 4 l4a l4n n7 fun a8 => stc (a8.add 2) (.int .i64 (-1)) w fun w9 => R (.pointer p1) (.int .i64 n2) (.pointer (some a3)) (.slice l4a l4n l4c) (.slice l5a l5n l5c) (.int .i64 n6) (.int .i64 (IntKind.wrap .i64 (n7 + 1))) w9) (K0 (.pointer p1) (.int .i64 n2) (.pointer (some a3)) (.slice l4a l4n l4c) (.slice l5a l5n l5c) w)
def F34_3 (K0 : Value → Value → Value → Value → Value → World → Prop) : Nat → Value → Value → Value → Value → Value → Value → Value → World → Prop
  | 0 => fun _ _ _ _ _ _ _ _ => False
  | n + 1 => F34_3B (F34_3 K0 n) K0
def F34_3O (Q : Post) (t : Tm) (w : World) : Prop := ∃ n, F34_3 (fun y0 y2 y4 y7 y8 w => ∀ g, rsh [(0, (.one .ptr)), (2, (.one (.int .i64))), (4, (.one .adr)), (7, (.one .slc)), (8, (.one .slc))] (upds g [(0, y0), (2, y2), (4, y4), (7, y7), (8, y8)]) fun t => Q (.exit 0) t w) n (t 0) (t 2) (t 4) (t 7) (t 8) (t 24) (t 25) w
theorem F34_3_step (K0 : Value → Value → Value → Value → Value → World → Prop) (n : Nat) (t : Tm) (w : World) : (F34_3 K0 (n + 1) (t 0) (t 2) (t 4) (t 7) (t 8) (t 24) (t 25) w) = rsh [(0, (.one .ptr)), (2, (.one (.int .i64))), (4, (.one .adr)), (7, (.one .slc)), (8, (.one .slc)), (24, (.one (.int .i64))), (25, (.one (.int .i64)))] t (fun t => vc Try.prog (orcOf []) [0, 0, 1, 0, 1, 1, 1] (getAt F34_code [0, 0, 1, 0, 1, 1, 1]) (fun o t w => match o with | .normal => F34_3 K0 n (t 0) (t 2) (t 4) (t 7) (t 8) (t 24) (t 25) w | .exit i => F34_3C K0 (.exit i) t w | .ret => F34_3C K0 .ret t w) t w) := by kernel_rfl
theorem F34_3_ok : ∀ Q t w, F34_3O Q t w → W Try.prog Try.f34.ntmps (getAt F34_code [0, 1, 0, 1, 1, 1]) Q t w := by
  intro Q t w ⟨n, h⟩
  refine (W_loop (P := Try.prog) (b := getAt F34_code [0, 0, 1, 0, 1, 1, 1]) (Q := F34_3C (fun y0 y2 y4 y7 y8 w => ∀ g, rsh [(0, (.one .ptr)), (2, (.one (.int .i64))), (4, (.one .adr)), (7, (.one .slc)), (8, (.one .slc))] (upds g [(0, y0), (2, y2), (4, y4), (7, y7), (8, y8)]) fun t => Q (.exit 0) t w)) (G := fun n t w => F34_3 (fun y0 y2 y4 y7 y8 w => ∀ g, rsh [(0, (.one .ptr)), (2, (.one (.int .i64))), (4, (.one .adr)), (7, (.one .slc)), (8, (.one .slc))] (upds g [(0, y0), (2, y2), (4, y4), (7, y7), (8, y8)]) fun t => Q (.exit 0) t w) n (t 0) (t 2) (t 4) (t 7) (t 8) (t 24) (t 25) w) (fun _ _ h => h) (fun n t w h => ?_) n t w h).mono ?_
  · rw [F34_3_step] at h
    exact vc_sound mixed (orcNil F34_code) _ _ rfl (okC_at F34_code_ok [0, 0, 1, 0, 1, 1, 1]) _ _ _ (rsh_out h)
  · intro o t w q
    cases o with
    | normal => exact q.elim
    | exit i =>
      unfold F34_3C at q
      simp only at q
      split at q
      · rename_i hi
        rw [nbeq] at hi
        subst hi
        exact out_ok [0, 2, 4, 7, 8] q
      · exact q.elim
    | ret => exact q.elim
def F34 (x0 : Value) (x1 : Value) (x2 : Value) (w : World) (K : Value → World → Prop) : Prop :=
  rdP x0 fun p1 => exR95 fun s2 => x1 = s2.v ∧ (rdI .i64 x2 fun n3 => alc (.cells s2.c 96) w fun b4 w5 => nn p1 fun a6 => ldI .i64 (a6.add 0) w5 fun n7 => ∃ l8a l8n l8c, ∃ w9, Sem.run Try.prog (Instr.makeSlice 46 (.int .i64 n7) (.int .i64 n7)) w5 = .ok (.slice l8a l8n l8c) w9 ∧ (nn p1 fun a10 => ldI .i64 (a10.add 0) w9 fun n11 => ∃ l12a l12n l12c, ∃ w13, Sem.run Try.prog (Instr.makeSlice 24 (.int .i64 n11) (.int .i64 n11)) w9 = .ok (.slice l12a l12n l12c) w13 ∧ (∃ k29 : Nat, F34_3 (fun y0_13 y2_13 y4_13 y7_13 y8_13 w15 => ∀ _g16 : Tm, rdP y0_13 fun p17 => rdI .i64 y2_13 fun n18 => rdA y4_13 fun a19 => rdC y7_13 fun l20a l20n l20c => rdC y8_13 fun l21a l21n l21c => nn p17 fun a22 => ldC (a22.add 2) w15 fun l23a l23n l23c => ∃ k28 : Nat, F34_2 (fun y7_23 w25 => ∀ _g26 : Tm, rdC y7_23 fun l27a l27n l27c => K (.slice l27a l27n l27c) w25) k28 (.int .i64 n18) (.pointer (some a19)) (.slice l20a l20n l20c) (.slice l21a l21n l21c) (.slice l23a l23n l23c) (.int .i64 (l23n : Int)) (.int .i64 0) w15) k29 (.pointer p1) (.int .i64 n3) (.pointer (some (Addr.mk b4 0 none))) (.slice l8a l8n l8c) (.slice l12a l12n l12c) (.int .i64 (l8n : Int)) (.int .i64 0) w13)))
theorem F34_step (x0 : Value) (x1 : Value) (x2 : Value) (w : World) (K : Value → World → Prop) : (F34 x0 x1 x2 w K) = rsh [(0, (.one .ptr)), (1, (.agg [.slc, .slc, .slc])), (2, (.one (.int .i64)))] (args0 #[x0, x1, x2]) (fun t => vc Try.prog (orcOf [([1, 1, 1, 1, 0, 0, 1, 1, 0, 0, 1, 0, 1, 1, 1, 1], F34_1O), ([0, 1, 0, 1, 1, 1, 1], F34_2O), ([0, 1, 0, 1, 1, 1], F34_3O)]) [] F34_code (retQ Try.prog Try.f34 K) t w) := by kernel_rfl
theorem F34_ok {x0 x1 x2 : Value} {w : World} {K : Value → World → Prop} (h : F34 x0 x1 x2 w K) : Calls Try.prog 34 #[x0, x1, x2] w fun e w' => ∃ v, e = .returned v ∧ K v w' := by
  rw [F34_step] at h
  exact calls_of (c := F34_code) mixed Try.func34 rfl (nlt rfl) (vc_sound mixed (orcCons (π := [1, 1, 1, 1, 0, 0, 1, 1, 0, 0, 1, 0, 1, 1, 1, 1]) F34_1_ok (orcCons (π := [0, 1, 0, 1, 1, 1, 1]) F34_2_ok (orcCons (π := [0, 1, 0, 1, 1, 1]) F34_3_ok (orcNil F34_code)))) F34_code [] rfl F34_code_ok _ _ _ (rsh_out h))

/-! (*ropewalk/outbox.Box).turn -/
noncomputable def F35_code : Code := Try.f35.body.getD .skip
theorem F35_code_ok : okC Try.prog Try.f35.ntmps F35_code = true := by kernel_rfl
def F35_1C (Kn : Value → Value → Value → Value → Value → Value → Value → World → Prop) : Post := fun o t w => match o with | .normal => Kn (t 2) (t 4) (t 6) (t 7) (t 11) (t 12) (t 13) w | .exit _ => (False) | .ret => False
def F35_1 (Kn : Value → Value → Value → Value → Value → Value → Value → World → Prop) (x2 : Value) (x4 : Value) (x6 : Value) (x7 : Value) (x11 : Value) (x12 : Value) (x13 : Value) (x28 : Value) (w : World) : Prop :=
  rdP x2 fun p1 => rdA x4 fun a2 => rdI .i64 x6 fun n3 => rdP x7 fun p4 => rdC x11 fun l5a l5n l5c => rdI .i64 x12 fun n6 => rdI .i64 x13 fun n7 => rdB x28 fun b8 => br b8 (Calls Try.prog 54 #[(.pointer p4)] w fun e10 w9 => e10 = .returned (.tuple #[]) ∧ (drw w9 fun w11 => ∃ w12 : World, Pres w12 w11 ∧ (nn p1 fun a13 => ldI .i64 (a13.add 2) w12 fun n14 => Calls Try.prog 60 #[(.pointer p4)] w11 fun e16 w15 => ∃ n17, e16 = .returned (.int .i64 n17) ∧ (Pres w12 w15 ∧ (nn p1 fun a18 => stc (a18.add 2) (.int .i64 (IntKind.wrap .i64 (n14 + n17))) w15 fun w19 => Kn (.pointer p1) (.pointer (some a2)) (.int .i64 n3) (.pointer p4) (.slice l5a l5n l5c) (.int .i64 n6) (.int .i64 n7) w19))))) (Kn (.pointer p1) (.pointer (some a2)) (.int .i64 n3) (.pointer p4) (.slice l5a l5n l5c) (.int .i64 n6) (.int .i64 n7) w)
def F35_1O (Q : Post) (t : Tm) (w : World) : Prop := F35_1 (fun y2 y4 y6 y7 y11 y12 y13 w => ∀ g, rsh [(2, (.one .ptr)), (4, (.one .adr)), (6, (.one (.int .i64))), (7, (.one .ptr)), (11, (.one .slc)), (12, (.one (.int .i64))), (13, (.one (.int .i64)))] (upds g [(2, y2), (4, y4), (6, y6), (7, y7), (11, y11), (12, y12), (13, y13)]) fun t => Q .normal t w) (t 2) (t 4) (t 6) (t 7) (t 11) (t 12) (t 13) (t 28) w
theorem F35_1_step (Kn : Value → Value → Value → Value → Value → Value → Value → World → Prop) (t : Tm) (w : World) : (F35_1 Kn (t 2) (t 4) (t 6) (t 7) (t 11) (t 12) (t 13) (t 28) w) = rsh [(2, (.one .ptr)), (4, (.one .adr)), (6, (.one (.int .i64))), (7, (.one .ptr)), (11, (.one .slc)), (12, (.one (.int .i64))), (13, (.one (.int .i64))), (28, (.one .bool))] t (fun t => vc Try.prog (orcOf []) [1, 1, 1, 0, 0, 1, 0, 0, 1, 1, 0, 0, 1, 1] (getAt F35_code [1, 1, 1, 0, 0, 1, 0, 0, 1, 1, 0, 0, 1, 1]) (F35_1C Kn) t w) := by kernel_rfl
theorem F35_1_ok : ∀ Q t w, F35_1O Q t w → W Try.prog Try.f35.ntmps (getAt F35_code [1, 1, 1, 0, 0, 1, 0, 0, 1, 1, 0, 0, 1, 1]) Q t w := by
  intro Q t w h
  unfold F35_1O at h
  rw [F35_1_step] at h
  refine (vc_sound mixed (orcNil F35_code) _ _ rfl (okC_at F35_code_ok [1, 1, 1, 0, 0, 1, 0, 0, 1, 1, 0, 0, 1, 1]) _ _ _ (rsh_out h)).mono ?_
  intro o t w q
  cases o with
  | normal => exact out_ok [2, 4, 6, 7, 11, 12, 13] q
  | exit i => exact q.elim
  | ret => exact q.elim
def F35_2C (Kn : Value → Value → Value → Value → Value → World → Prop) : Post := fun o t w => match o with | .normal => Kn (t 2) (t 4) (t 11) (t 12) (t 13) w | .exit _ => (False) | .ret => False
def F35_2 (Kn : Value → Value → Value → Value → Value → World → Prop) (x2 : Value) (x4 : Value) (x7 : Value) (x11 : Value) (x12 : Value) (x13 : Value) (x66 : Value) (w : World) : Prop :=
  rdP x2 fun p1 => rdA x4 fun a2 => rdP x7 fun p3 => rdC x11 fun l4a l4n l4c => rdI .i64 x12 fun n5 => rdI .i64 x13 fun n6 => rdB x66 fun b7 => br b7 (nn p3 fun a8 => stc ((a8.add 0).add 6) (.int .i64 4) w fun w9 => drw w9 fun w10 => ∃ w11 : World, Pres w11 w10 ∧ (nn p1 fun a12 => ldI .i64 (a12.add 1) w11 fun n13 => Calls Try.prog 60 #[(.pointer p3)] w10 fun e15 w14 => ∃ n16, e15 = .returned (.int .i64 n16) ∧ (Pres w11 w14 ∧ (nn p1 fun a17 => stc (a17.add 1) (.int .i64 (IntKind.wrap .i64 (n13 + n16))) w14 fun w18 => Kn (.pointer p1) (.pointer (some a2)) (.slice l4a l4n l4c) (.int .i64 n5) (.int .i64 n6) w18)))) (Kn (.pointer p1) (.pointer (some a2)) (.slice l4a l4n l4c) (.int .i64 n5) (.int .i64 n6) w)
def F35_2O (Q : Post) (t : Tm) (w : World) : Prop := F35_2 (fun y2 y4 y11 y12 y13 w => ∀ g, rsh [(2, (.one .ptr)), (4, (.one .adr)), (11, (.one .slc)), (12, (.one (.int .i64))), (13, (.one (.int .i64)))] (upds g [(2, y2), (4, y4), (11, y11), (12, y12), (13, y13)]) fun t => Q .normal t w) (t 2) (t 4) (t 7) (t 11) (t 12) (t 13) (t 66) w
theorem F35_2_step (Kn : Value → Value → Value → Value → Value → World → Prop) (t : Tm) (w : World) : (F35_2 Kn (t 2) (t 4) (t 7) (t 11) (t 12) (t 13) (t 66) w) = rsh [(2, (.one .ptr)), (4, (.one .adr)), (7, (.one .ptr)), (11, (.one .slc)), (12, (.one (.int .i64))), (13, (.one (.int .i64))), (66, (.one .bool))] t (fun t => vc Try.prog (orcOf []) [1, 1, 1, 0, 0, 1, 1, 0, 0, 1, 1] (getAt F35_code [1, 1, 1, 0, 0, 1, 1, 0, 0, 1, 1]) (F35_2C Kn) t w) := by kernel_rfl
theorem F35_2_ok : ∀ Q t w, F35_2O Q t w → W Try.prog Try.f35.ntmps (getAt F35_code [1, 1, 1, 0, 0, 1, 1, 0, 0, 1, 1]) Q t w := by
  intro Q t w h
  unfold F35_2O at h
  rw [F35_2_step] at h
  refine (vc_sound mixed (orcNil F35_code) _ _ rfl (okC_at F35_code_ok [1, 1, 1, 0, 0, 1, 1, 0, 0, 1, 1]) _ _ _ (rsh_out h)).mono ?_
  intro o t w q
  cases o with
  | normal => exact out_ok [2, 4, 11, 12, 13] q
  | exit i => exact q.elim
  | ret => exact q.elim
def F35_3C (Kn : Value → Value → Value → Value → Value → World → Prop) : Post := fun o t w => match o with | .normal => Kn (t 2) (t 4) (t 11) (t 12) (t 13) w | .exit _ => (False) | .ret => False
def F35_3 (Kn : Value → Value → Value → Value → Value → World → Prop) (x2 : Value) (x4 : Value) (x6 : Value) (x7 : Value) (x11 : Value) (x12 : Value) (x13 : Value) (w : World) : Prop :=
  rdP x2 fun p1 => rdA x4 fun a2 => rdI .i64 x6 fun n3 => rdP x7 fun p4 => rdC x11 fun l5a l5n l5c => rdI .i64 x12 fun n6 => rdI .i64 x13 fun n7 => ldC (a2.add 1) w fun l8a l8n _ => ixS 1 l8a l8n n3 fun a9 => ldB a9 w fun b10 => br b10 (nn p4 fun a11 => ldI .i64 ((a11.add 0).add 6) w fun n12 => F35_2 (fun y2_12 y4_12 y11_12 y12_12 y13_12 w14 => ∀ _g15 : Tm, rdP y2_12 fun p16 => rdA y4_12 fun a17 => rdC y11_12 fun l18a l18n l18c => rdI .i64 y12_12 fun n19 => rdI .i64 y13_12 fun n20 => Kn (.pointer p16) (.pointer (some a17)) (.slice l18a l18n l18c) (.int .i64 n19) (.int .i64 n20) w14) (.pointer p1) (.pointer (some a2)) (.pointer p4) (.slice l5a l5n l5c) (.int .i64 n6) (.int .i64 n7) (.bool (n12 == 3)) w) (F35_2 (fun y2_20 y4_20 y11_20 y12_20 y13_20 w22 => ∀ _g23 : Tm, rdP y2_20 fun p24 => rdA y4_20 fun a25 => rdC y11_20 fun l26a l26n l26c => rdI .i64 y12_20 fun n27 => rdI .i64 y13_20 fun n28 => Kn (.pointer p24) (.pointer (some a25)) (.slice l26a l26n l26c) (.int .i64 n27) (.int .i64 n28) w22) (.pointer p1) (.pointer (some a2)) (.pointer p4) (.slice l5a l5n l5c) (.int .i64 n6) (.int .i64 n7) (.bool false) w)
def F35_3O (Q : Post) (t : Tm) (w : World) : Prop := F35_3 (fun y2 y4 y11 y12 y13 w => ∀ g, rsh [(2, (.one .ptr)), (4, (.one .adr)), (11, (.one .slc)), (12, (.one (.int .i64))), (13, (.one (.int .i64)))] (upds g [(2, y2), (4, y4), (11, y11), (12, y12), (13, y13)]) fun t => Q .normal t w) (t 2) (t 4) (t 6) (t 7) (t 11) (t 12) (t 13) w
theorem F35_3_step (Kn : Value → Value → Value → Value → Value → World → Prop) (t : Tm) (w : World) : (F35_3 Kn (t 2) (t 4) (t 6) (t 7) (t 11) (t 12) (t 13) w) = rsh [(2, (.one .ptr)), (4, (.one .adr)), (6, (.one (.int .i64))), (7, (.one .ptr)), (11, (.one .slc)), (12, (.one (.int .i64))), (13, (.one (.int .i64)))] t (fun t => vc Try.prog (orcOf [([1, 1, 1, 0, 0, 1, 1, 0, 0, 1, 1], F35_2O)]) [1, 1, 0, 0, 1, 1, 0, 0, 1, 1] (getAt F35_code [1, 1, 0, 0, 1, 1, 0, 0, 1, 1]) (F35_3C Kn) t w) := by kernel_rfl
theorem F35_3_ok : ∀ Q t w, F35_3O Q t w → W Try.prog Try.f35.ntmps (getAt F35_code [1, 1, 0, 0, 1, 1, 0, 0, 1, 1]) Q t w := by
  intro Q t w h
  unfold F35_3O at h
  rw [F35_3_step] at h
  refine (vc_sound mixed (orcCons (π := [1, 1, 1, 0, 0, 1, 1, 0, 0, 1, 1]) F35_2_ok (orcNil F35_code)) _ _ rfl (okC_at F35_code_ok [1, 1, 0, 0, 1, 1, 0, 0, 1, 1]) _ _ _ (rsh_out h)).mono ?_
  intro o t w q
  cases o with
  | normal => exact out_ok [2, 4, 11, 12, 13] q
  | exit i => exact q.elim
  | ret => exact q.elim
def F35_4C (K0 : World → Prop) : Post := fun o _ w => match o with | .normal => False | .exit i => (match Nat.beq i 0 with | true => K0  w | false => False) | .ret => False
def F35_4B (R : Value → Value → Value → Value → Value → World → Prop) (K0 : World → Prop) (x2 : Value) (x4 : Value) (x11 : Value) (x12 : Value) (x13 : Value) (w : World) : Prop :=
  rdP x2 fun p1 => rdA x4 fun a2 => rdC x11 fun l3a l3n l3c => rdI .i64 x12 fun n4 => rdI .i64 x13 fun n5 => br (decide ((n5 : Int) < n4)) (ixS 1 l3a l3n n5 fun a6 => ldP a6 w fun p7 => ldC (a2.add 2) w fun l8a l8n _ => ixS 1 l8a l8n n5 fun a9 => ldB a9 w fun b10 => br b10 (nn p7 fun a11 => stc ((a11.add 0).add 6) (.int .i64 3) w fun w12 => F35_3 (fun y2_12 y4_12 y11_12 y12_12 y13_12 w14 => ∀ _g15 : Tm, rdP y2_12 fun p16 => rdA y4_12 fun a17 => rdC y11_12 fun l18a l18n l18c => rdI .i64 y12_12 fun n19 => rdI .i64 y13_12 fun n20 => R (.pointer p16) (.pointer (some a17)) (.slice l18a l18n l18c) (.int .i64 n19) (.int .i64 (IntKind.wrap .i64 (n20 + 1))) w14) (.pointer p1) (.pointer (some a2)) (.int .i64 n5) (.pointer p7) (.slice l3a l3n l3c) (.int .i64 n4) (.int .i64 n5) w12) (nn p7 fun a21 => ldI .i64 ((a21.add 0).add 6) w fun n22 => br (n22 == 3) (ldC (a2.add 0) w fun l23a l23n _ => ixS 1 l23a l23n n5 fun a24 => ldB a24 w fun b25 => F35_1 (fun y2_25 y4_25 y6_25 y7_25 y11_25 y12_25 y13_25 w27 => ∀ _g28 : Tm, rdP y2_25 fun p29 => rdA y4_25 fun a30 => rdI .i64 y6_25 fun n31 => rdP y7_25 fun p32 => rdC y11_25 fun l33a l33n l33c => rdI .i64 y12_25 fun n34 => rdI .i64 y13_25 fun n35 => F35_3 (fun y2_35 y4_35 y11_35 y12_35 y13_35 w37 => ∀ _g38 : Tm, rdP y2_35 fun p39 => rdA y4_35 fun a40 => rdC y11_35 fun l41a l41n l41c => rdI .i64 y12_35 fun n42 => rdI .i64 y13_35 fun n43 => R (.pointer p39) (.pointer (some a40)) (.slice l41a l41n l41c) (.int .i64 n42) (.int .i64 (IntKind.wrap .i64 (n43 + 1))) w37) (.pointer p29) (.pointer (some a30)) (.int .i64 n31) (.pointer p32) (.slice l33a l33n l33c) (.int .i64 n34) (.int .i64 n35) w27) (.pointer p1) (.pointer (some a2)) (.int .i64 n5) (.pointer p7) (.slice l3a l3n l3c) (.int .i64 n4) (.int .i64 n5) (.bool (!b25)) w) (F35_1 (fun y2_43 y4_43 y6_43 y7_43 y11_43 y12_43 y13_43 w45 => ∀ _g46 : Tm, rdP y2_43 fun p47 => rdA y4_43 fun a48 => rdI .i64 y6_43 fun n49 => rdP y7_43 fun p50 => rdC y11_43 fun l51a l51n l51c => rdI .i64 y12_43 fun n52 => rdI .i64 y13_43 fun n53 => F35_3 (fun y2_53 y4_53 y11_53 y12_53 y13_53 w55 => ∀ _g56 : Tm, rdP y2_53 fun p57 => rdA y4_53 fun a58 => rdC y11_53 fun l59a l59n l59c => rdI .i64 y12_53 fun n60 => rdI .i64 y13_53 fun n61 => R (.pointer p57) (.pointer (some a58)) (.slice l59a l59n l59c) (.int .i64 n60) (.int .i64 (IntKind.wrap .i64 (n61 + 1))) w55) (.pointer p47) (.pointer (some a48)) (.int .i64 n49) (.pointer p50) (.slice l51a l51n l51c) (.int .i64 n52) (.int .i64 n53) w45) (.pointer p1) (.pointer (some a2)) (.int .i64 n5) (.pointer p7) (.slice l3a l3n l3c) (.int .i64 n4) (.int .i64 n5) (.bool false) w))) (K0 w)
def F35_4 (K0 : World → Prop) : Nat → Value → Value → Value → Value → Value → World → Prop
  | 0 => fun _ _ _ _ _ _ => False
  | n + 1 => F35_4B (F35_4 K0 n) K0
def F35_4O (Q : Post) (t : Tm) (w : World) : Prop := ∃ n, F35_4 (fun w => ∀ g, rsh [] (upds g []) fun t => Q (.exit 0) t w) n (t 2) (t 4) (t 11) (t 12) (t 13) w
theorem F35_4_step (K0 : World → Prop) (n : Nat) (t : Tm) (w : World) : (F35_4 K0 (n + 1) (t 2) (t 4) (t 11) (t 12) (t 13) w) = rsh [(2, (.one .ptr)), (4, (.one .adr)), (11, (.one .slc)), (12, (.one (.int .i64))), (13, (.one (.int .i64)))] t (fun t => vc Try.prog (orcOf [([1, 1, 1, 0, 0, 1, 0, 0, 1, 1, 0, 0, 1, 1], F35_1O), ([1, 1, 1, 0, 0, 1, 1, 0, 0, 1, 1], F35_2O), ([1, 1, 0, 0, 1, 1, 0, 0, 1, 1], F35_3O)]) [0, 0, 1, 1] (getAt F35_code [0, 0, 1, 1]) (fun o t w => match o with | .normal => F35_4 K0 n (t 2) (t 4) (t 11) (t 12) (t 13) w | .exit i => F35_4C K0 (.exit i) t w | .ret => F35_4C K0 .ret t w) t w) := by kernel_rfl
theorem F35_4_ok : ∀ Q t w, F35_4O Q t w → W Try.prog Try.f35.ntmps (getAt F35_code [0, 1, 1]) Q t w := by
  intro Q t w ⟨n, h⟩
  refine (W_loop (P := Try.prog) (b := getAt F35_code [0, 0, 1, 1]) (Q := F35_4C (fun w => ∀ g, rsh [] (upds g []) fun t => Q (.exit 0) t w)) (G := fun n t w => F35_4 (fun w => ∀ g, rsh [] (upds g []) fun t => Q (.exit 0) t w) n (t 2) (t 4) (t 11) (t 12) (t 13) w) (fun _ _ h => h) (fun n t w h => ?_) n t w h).mono ?_
  · rw [F35_4_step] at h
    exact vc_sound mixed (orcCons (π := [1, 1, 1, 0, 0, 1, 0, 0, 1, 1, 0, 0, 1, 1]) F35_1_ok (orcCons (π := [1, 1, 1, 0, 0, 1, 1, 0, 0, 1, 1]) F35_2_ok (orcCons (π := [1, 1, 0, 0, 1, 1, 0, 0, 1, 1]) F35_3_ok (orcNil F35_code)))) _ _ rfl (okC_at F35_code_ok [0, 0, 1, 1]) _ _ _ (rsh_out h)
  · intro o t w q
    cases o with
    | normal => exact q.elim
    | exit i =>
      unfold F35_4C at q
      simp only at q
      split at q
      · rename_i hi
        rw [nbeq] at hi
        subst hi
        exact out_ok [] q
      · exact q.elim
    | ret => exact q.elim
def F35 (x0 : Value) (x1 : Value) (x2 : Value) (w : World) (K : Value → World → Prop) : Prop :=
  rdP x0 fun p1 => exR95 fun s2 => x1 = s2.v ∧ (rdP x2 fun p3 => alc (.cells s2.c 96) w fun b4 w5 => nn p1 fun a6 => ldC (a6.add 2) w5 fun l7a l7n l7c => ∃ k11 : Nat, F35_4 (fun w9 => ∀ _g10 : Tm, K (.tuple #[]) w9) k11 (.pointer p3) (.pointer (some (Addr.mk b4 0 none))) (.slice l7a l7n l7c) (.int .i64 (l7n : Int)) (.int .i64 0) w5)
theorem F35_step (x0 : Value) (x1 : Value) (x2 : Value) (w : World) (K : Value → World → Prop) : (F35 x0 x1 x2 w K) = rsh [(0, (.one .ptr)), (1, (.agg [.slc, .slc, .slc])), (2, (.one .ptr))] (args0 #[x0, x1, x2]) (fun t => vc Try.prog (orcOf [([1, 1, 1, 0, 0, 1, 0, 0, 1, 1, 0, 0, 1, 1], F35_1O), ([1, 1, 1, 0, 0, 1, 1, 0, 0, 1, 1], F35_2O), ([1, 1, 0, 0, 1, 1, 0, 0, 1, 1], F35_3O), ([0, 1, 1], F35_4O)]) [] F35_code (retQ Try.prog Try.f35 K) t w) := by kernel_rfl
theorem F35_ok {x0 x1 x2 : Value} {w : World} {K : Value → World → Prop} (h : F35 x0 x1 x2 w K) : Calls Try.prog 35 #[x0, x1, x2] w fun e w' => ∃ v, e = .returned v ∧ K v w' := by
  rw [F35_step] at h
  exact calls_of (c := F35_code) mixed Try.func35 rfl (nlt rfl) (vc_sound mixed (orcCons (π := [1, 1, 1, 0, 0, 1, 0, 0, 1, 1, 0, 0, 1, 1]) F35_1_ok (orcCons (π := [1, 1, 1, 0, 0, 1, 1, 0, 0, 1, 1]) F35_2_ok (orcCons (π := [1, 1, 0, 0, 1, 1, 0, 0, 1, 1]) F35_3_ok (orcCons (π := [0, 1, 1]) F35_4_ok (orcNil F35_code))))) F35_code [] rfl F35_code_ok _ _ _ (rsh_out h))

/-! (*ropewalk/outbox.Box).quick -/
noncomputable def F36_code : Code := Try.f36.body.getD .skip
theorem F36_code_ok : okC Try.prog Try.f36.ntmps F36_code = true := by kernel_rfl
def F36_1C (Kn : Value → Value → Value → Value → World → Prop) : Post := fun o t w => match o with | .normal => Kn (t 4) (t 6) (t 8) (t 9) w | .exit _ => (False) | .ret => False
def F36_1 (Kn : Value → Value → Value → Value → World → Prop) (x4 : Value) (x5 : Value) (x6 : Value) (x8 : Value) (x9 : Value) (x71 : Value) (w : World) : Prop :=
  rdA x4 fun a1 => rdA x5 fun a2 => rdA x6 fun a3 => rdI .i64 x8 fun n4 => rdP x9 fun p5 => rdB x71 fun b6 => br b6 (Calls Try.prog 54 #[(.pointer p5)] w fun e8 w7 => e8 = .returned (.tuple #[]) ∧ (nn p5 fun a9 => stc ((a9.add 0).add 5) (.bool true) w7 fun w10 => drw w10 fun w11 => ∃ w12 : World, Pres w12 w11 ∧ (ldP a2 w12 fun p13 => nn p13 fun a14 => ldC (a14.add 0) w12 fun l15a l15n _ => nn p5 fun a16 => ldI .i64 ((a16.add 0).add 1) w12 fun n17 => ixS 4 l15a l15n n17 fun a18 => ldI .i64 (a18.add 3) w12 fun n19 => Calls Try.prog 60 #[(.pointer p5)] w11 fun e21 w20 => ∃ n22, e21 = .returned (.int .i64 n22) ∧ (Pres w12 w20 ∧ (ixS 4 l15a l15n n17 fun a23 => stc (a23.add 3) (.int .i64 (IntKind.wrap .i64 (n19 + n22))) w20 fun w24 => Kn (.pointer (some a1)) (.pointer (some a3)) (.int .i64 n4) (.pointer p5) w24))))) (Kn (.pointer (some a1)) (.pointer (some a3)) (.int .i64 n4) (.pointer p5) w)
def F36_1O (Q : Post) (t : Tm) (w : World) : Prop := F36_1 (fun y4 y6 y8 y9 w => ∀ g, rsh [(4, (.one .adr)), (6, (.one .adr)), (8, (.one (.int .i64))), (9, (.one .ptr))] (upds g [(4, y4), (6, y6), (8, y8), (9, y9)]) fun t => Q .normal t w) (t 4) (t 5) (t 6) (t 8) (t 9) (t 71) w
theorem F36_1_step (Kn : Value → Value → Value → Value → World → Prop) (t : Tm) (w : World) : (F36_1 Kn (t 4) (t 5) (t 6) (t 8) (t 9) (t 71) w) = rsh [(4, (.one .adr)), (5, (.one .adr)), (6, (.one .adr)), (8, (.one (.int .i64))), (9, (.one .ptr)), (71, (.one .bool))] t (fun t => vc Try.prog (orcOf []) [1, 1, 0, 1, 0, 0, 1, 0, 1, 1, 1, 1] (getAt F36_code [1, 1, 0, 1, 0, 0, 1, 0, 1, 1, 1, 1]) (F36_1C Kn) t w) := by kernel_rfl
theorem F36_1_ok : ∀ Q t w, F36_1O Q t w → W Try.prog Try.f36.ntmps (getAt F36_code [1, 1, 0, 1, 0, 0, 1, 0, 1, 1, 1, 1]) Q t w := by
  intro Q t w h
  unfold F36_1O at h
  rw [F36_1_step] at h
  refine (vc_sound mixed (orcNil F36_code) _ _ rfl (okC_at F36_code_ok [1, 1, 0, 1, 0, 0, 1, 0, 1, 1, 1, 1]) _ _ _ (rsh_out h)).mono ?_
  intro o t w q
  cases o with
  | normal => exact out_ok [4, 6, 8, 9] q
  | exit i => exact q.elim
  | ret => exact q.elim
def F36_2C (Kn : Value → Value → Value → Value → World → Prop) : Post := fun o t w => match o with | .normal => Kn (t 4) (t 6) (t 8) (t 9) w | .exit _ => (False) | .ret => False
def F36_2 (Kn : Value → Value → Value → Value → World → Prop) (x4 : Value) (x5 : Value) (x6 : Value) (x8 : Value) (x9 : Value) (x48 : Value) (w : World) : Prop :=
  rdA x4 fun a1 => rdA x5 fun a2 => rdA x6 fun a3 => rdI .i64 x8 fun n4 => rdP x9 fun p5 => rdB x48 fun b6 => br b6 (nn p5 fun a7 => ldI .i64 ((a7.add 0).add 4) w fun n8 => nn p5 fun a9 => stc ((a9.add 0).add 4) (.int .i64 (IntKind.wrap .i64 (n8 + 1))) w fun w10 => nn p5 fun a11 => ldI .i64 ((a11.add 0).add 4) w10 fun n12 => br (decide ((n12 : Int) ≥ 3)) (nn p5 fun a13 => ldB ((a13.add 0).add 5) w10 fun b14 => F36_1 (fun y4_14 y6_14 y8_14 y9_14 w16 => ∀ _g17 : Tm, rdA y4_14 fun a18 => rdA y6_14 fun a19 => rdI .i64 y8_14 fun n20 => rdP y9_14 fun p21 => Kn (.pointer (some a18)) (.pointer (some a19)) (.int .i64 n20) (.pointer p21) w16) (.pointer (some a1)) (.pointer (some a2)) (.pointer (some a3)) (.int .i64 n4) (.pointer p5) (.bool (!b14)) w10) (F36_1 (fun y4_21 y6_21 y8_21 y9_21 w23 => ∀ _g24 : Tm, rdA y4_21 fun a25 => rdA y6_21 fun a26 => rdI .i64 y8_21 fun n27 => rdP y9_21 fun p28 => Kn (.pointer (some a25)) (.pointer (some a26)) (.int .i64 n27) (.pointer p28) w23) (.pointer (some a1)) (.pointer (some a2)) (.pointer (some a3)) (.int .i64 n4) (.pointer p5) (.bool false) w10)) (Kn (.pointer (some a1)) (.pointer (some a3)) (.int .i64 n4) (.pointer p5) w)
def F36_2O (Q : Post) (t : Tm) (w : World) : Prop := F36_2 (fun y4 y6 y8 y9 w => ∀ g, rsh [(4, (.one .adr)), (6, (.one .adr)), (8, (.one (.int .i64))), (9, (.one .ptr))] (upds g [(4, y4), (6, y6), (8, y8), (9, y9)]) fun t => Q .normal t w) (t 4) (t 5) (t 6) (t 8) (t 9) (t 48) w
theorem F36_2_step (Kn : Value → Value → Value → Value → World → Prop) (t : Tm) (w : World) : (F36_2 Kn (t 4) (t 5) (t 6) (t 8) (t 9) (t 48) w) = rsh [(4, (.one .adr)), (5, (.one .adr)), (6, (.one .adr)), (8, (.one (.int .i64))), (9, (.one .ptr)), (48, (.one .bool))] t (fun t => vc Try.prog (orcOf [([1, 1, 0, 1, 0, 0, 1, 0, 1, 1, 1, 1], F36_1O)]) [1, 0, 0, 1, 0, 1, 1, 1, 1] (getAt F36_code [1, 0, 0, 1, 0, 1, 1, 1, 1]) (F36_2C Kn) t w) := by kernel_rfl
theorem F36_2_ok : ∀ Q t w, F36_2O Q t w → W Try.prog Try.f36.ntmps (getAt F36_code [1, 0, 0, 1, 0, 1, 1, 1, 1]) Q t w := by
  intro Q t w h
  unfold F36_2O at h
  rw [F36_2_step] at h
  refine (vc_sound mixed (orcCons (π := [1, 1, 0, 1, 0, 0, 1, 0, 1, 1, 1, 1]) F36_1_ok (orcNil F36_code)) _ _ rfl (okC_at F36_code_ok [1, 0, 0, 1, 0, 1, 1, 1, 1]) _ _ _ (rsh_out h)).mono ?_
  intro o t w q
  cases o with
  | normal => exact out_ok [4, 6, 8, 9] q
  | exit i => exact q.elim
  | ret => exact q.elim
def F36_3C (Kn : World → Prop) : Post := fun o _ w => match o with | .normal => Kn  w | .exit _ => (False) | .ret => False
def F36_3 (Kn : World → Prop) (x4 : Value) (x6 : Value) (x8 : Value) (x9 : Value) (w : World) : Prop :=
  rdA x4 fun a1 => rdA x6 fun a2 => rdI .i64 x8 fun n3 => rdP x9 fun p4 => ldC (a1.add 2) w fun l5a l5n _ => ixS 1 l5a l5n n3 fun a6 => ldB a6 w fun b7 => br b7 (drw w fun w8 => ldC a2 w8 fun l9a l9n _ => nn p4 fun a10 => ldI .i64 ((a10.add 0).add 1) w8 fun n11 => ldC a2 w8 fun l12a l12n _ => nn p4 fun a13 => ldI .i64 ((a13.add 0).add 1) w8 fun n14 => ixS 1 l12a l12n n14 fun a15 => ldI .i64 a15 w8 fun n16 => nn p4 fun a17 => ldI .i64 ((a17.add 0).add 3) w8 fun n18 => Pres w8 w8 ∧ (ixS 1 l9a l9n n11 fun a19 => stc a19 (.int .i64 (if (n18 : Int) > n16 then n18 else n16)) w8 fun w20 => Kn w20)) (Kn w)
def F36_3O (Q : Post) (t : Tm) (w : World) : Prop := F36_3 (fun w => ∀ g, rsh [] (upds g []) fun t => Q .normal t w) (t 4) (t 6) (t 8) (t 9) w
theorem F36_3_step (Kn : World → Prop) (t : Tm) (w : World) : (F36_3 Kn (t 4) (t 6) (t 8) (t 9) w) = rsh [(4, (.one .adr)), (6, (.one .adr)), (8, (.one (.int .i64))), (9, (.one .ptr))] t (fun t => vc Try.prog (orcOf []) [1, 0, 1, 0, 1, 1, 1, 1] (getAt F36_code [1, 0, 1, 0, 1, 1, 1, 1]) (F36_3C Kn) t w) := by kernel_rfl
theorem F36_3_ok : ∀ Q t w, F36_3O Q t w → W Try.prog Try.f36.ntmps (getAt F36_code [1, 0, 1, 0, 1, 1, 1, 1]) Q t w := by
  intro Q t w h
  unfold F36_3O at h
  rw [F36_3_step] at h
  refine (vc_sound mixed (orcNil F36_code) _ _ rfl (okC_at F36_code_ok [1, 0, 1, 0, 1, 1, 1, 1]) _ _ _ (rsh_out h)).mono ?_
  intro o t w q
  cases o with
  | normal => exact out_ok [] q
  | exit i => exact q.elim
  | ret => exact q.elim
def F36_4C (K0 : Value → Value → Value → Value → World → Prop) : Post := fun o t w => match o with | .normal => False | .exit i => (match Nat.beq i 0 with | true => K0 (t 0) (t 4) (t 5) (t 6) w | false => False) | .ret => False
def F36_4B (R : Value → Value → Value → Value → Value → Value → World → Prop) (K0 : Value → Value → Value → Value → World → Prop) (x0 : Value) (x4 : Value) (x5 : Value) (x6 : Value) (x16 : Value) (x17 : Value) (w : World) : Prop :=
  rdP x0 fun p1 => rdA x4 fun a2 => rdA x5 fun a3 => rdA x6 fun a4 => rdI .i64 x16 fun n5 => rdI .i64 x17 fun n6 => br (decide ((n6 : Int) < n5)) (ldC a4 w fun l7a l7n _ => ixS 1 l7a l7n n6 fun a8 => stc a8 (.int .i64 (-1)) w fun w9 => R (.pointer p1) (.pointer (some a2)) (.pointer (some a3)) (.pointer (some a4)) (.int .i64 n5) (.int .i64 (IntKind.wrap .i64 (n6 + 1))) w9) (K0 (.pointer p1) (.pointer (some a2)) (.pointer (some a3)) (.pointer (some a4)) w)
def F36_4 (K0 : Value → Value → Value → Value → World → Prop) : Nat → Value → Value → Value → Value → Value → Value → World → Prop
  | 0 => fun _ _ _ _ _ _ _ => False
  | n + 1 => F36_4B (F36_4 K0 n) K0
def F36_4O (Q : Post) (t : Tm) (w : World) : Prop := ∃ n, F36_4 (fun y0 y4 y5 y6 w => ∀ g, rsh [(0, (.one .ptr)), (4, (.one .adr)), (5, (.one .adr)), (6, (.one .adr))] (upds g [(0, y0), (4, y4), (5, y5), (6, y6)]) fun t => Q (.exit 0) t w) n (t 0) (t 4) (t 5) (t 6) (t 16) (t 17) w
theorem F36_4_step (K0 : Value → Value → Value → Value → World → Prop) (n : Nat) (t : Tm) (w : World) : (F36_4 K0 (n + 1) (t 0) (t 4) (t 5) (t 6) (t 16) (t 17) w) = rsh [(0, (.one .ptr)), (4, (.one .adr)), (5, (.one .adr)), (6, (.one .adr)), (16, (.one (.int .i64))), (17, (.one (.int .i64)))] t (fun t => vc Try.prog (orcOf []) [0, 0, 1, 0, 1, 1] (getAt F36_code [0, 0, 1, 0, 1, 1]) (fun o t w => match o with | .normal => F36_4 K0 n (t 0) (t 4) (t 5) (t 6) (t 16) (t 17) w | .exit i => F36_4C K0 (.exit i) t w | .ret => F36_4C K0 .ret t w) t w) := by kernel_rfl
theorem F36_4_ok : ∀ Q t w, F36_4O Q t w → W Try.prog Try.f36.ntmps (getAt F36_code [0, 1, 0, 1, 1]) Q t w := by
  intro Q t w ⟨n, h⟩
  refine (W_loop (P := Try.prog) (b := getAt F36_code [0, 0, 1, 0, 1, 1]) (Q := F36_4C (fun y0 y4 y5 y6 w => ∀ g, rsh [(0, (.one .ptr)), (4, (.one .adr)), (5, (.one .adr)), (6, (.one .adr))] (upds g [(0, y0), (4, y4), (5, y5), (6, y6)]) fun t => Q (.exit 0) t w)) (G := fun n t w => F36_4 (fun y0 y4 y5 y6 w => ∀ g, rsh [(0, (.one .ptr)), (4, (.one .adr)), (5, (.one .adr)), (6, (.one .adr))] (upds g [(0, y0), (4, y4), (5, y5), (6, y6)]) fun t => Q (.exit 0) t w) n (t 0) (t 4) (t 5) (t 6) (t 16) (t 17) w) (fun _ _ h => h) (fun n t w h => ?_) n t w h).mono ?_
  · rw [F36_4_step] at h
    exact vc_sound mixed (orcNil F36_code) _ _ rfl (okC_at F36_code_ok [0, 0, 1, 0, 1, 1]) _ _ _ (rsh_out h)
  · intro o t w q
    cases o with
    | normal => exact q.elim
    | exit i =>
      unfold F36_4C at q
      simp only at q
      split at q
      · rename_i hi
        rw [nbeq] at hi
        subst hi
        exact out_ok [0, 4, 5, 6] q
      · exact q.elim
    | ret => exact q.elim
def F36_5C (Kn : World → Prop) : Post := fun o _ w => match o with | .normal => Kn  w | .exit _ => (False) | .ret => False
def F36_5r (Kn : World → Prop) (_ : Code → World → Prop) (x4 : Value) (x5 : Value) (x6 : Value) (x29 : Value) (x30 : Value) (w wb : World) : Prop :=
  rdA x4 fun a1 => rdA x5 fun a2 => rdA x6 fun a3 => rdI .i64 x29 fun n4 => rdP x30 fun p5 => (w = w ∧ (drw wb fun w6 => Calls Try.prog 55 #[(.pointer p5)] w6 fun e8 w7 => ∃ b9, e8 = .returned (.bool b9) ∧ (br b9 (ldC a3 w7 fun l10a l10n _ => nn p5 fun a11 => ldI .i64 ((a11.add 0).add 1) w7 fun n12 => ixS 1 l10a l10n n12 fun a13 => ldI .i64 a13 w7 fun n14 => nn p5 fun a15 => ldI .i64 ((a15.add 0).add 3) w7 fun n16 => F36_2 (fun y4_16 y6_16 y8_16 y9_16 w18 => ∀ _g19 : Tm, rdA y4_16 fun a20 => rdA y6_16 fun a21 => rdI .i64 y8_16 fun n22 => rdP y9_16 fun p23 => F36_3 (fun w25 => ∀ _g26 : Tm, Kn w25) (.pointer (some a20)) (.pointer (some a21)) (.int .i64 n22) (.pointer p23) w18) (.pointer (some a1)) (.pointer (some a2)) (.pointer (some a3)) (.int .i64 n4) (.pointer p5) (.bool (decide ((n14 : Int) ≥ n16))) w7) (F36_2 (fun y4_26 y6_26 y8_26 y9_26 w28 => ∀ _g29 : Tm, rdA y4_26 fun a30 => rdA y6_26 fun a31 => rdI .i64 y8_26 fun n32 => rdP y9_26 fun p33 => F36_3 (fun w35 => ∀ _g36 : Tm, Kn w35) (.pointer (some a30)) (.pointer (some a31)) (.int .i64 n32) (.pointer p33) w28) (.pointer (some a1)) (.pointer (some a2)) (.pointer (some a3)) (.int .i64 n4) (.pointer p5) (.bool false) w7))))
theorem F36_5r_step (Kn : World → Prop) (Kx : Code → World → Prop) (t : Tm) (w wb : World) : (F36_5r Kn Kx (t 4) (t 5) (t 6) (t 29) (t 30) w wb) = rsh [(4, (.one .adr)), (5, (.one .adr)), (6, (.one .adr)), (29, (.one (.int .i64))), (30, (.one .ptr))] t (fun t => vcR Try.prog (orcOf [([1, 1, 0, 1, 0, 0, 1, 0, 1, 1, 1, 1], F36_1O), ([1, 0, 0, 1, 0, 1, 1, 1, 1], F36_2O), ([1, 0, 1, 0, 1, 1, 1, 1], F36_3O)]) [0, 1, 1, 1, 1] (getAt F36_code [0, 1, 1, 1, 1]) Kn Kx t w wb) := by kernel_rfl
def F36_5rO (t : Tm) (w wb : World) (Kn : World → Prop) (Kx : Code → World → Prop) : Prop := F36_5r Kn Kx (t 4) (t 5) (t 6) (t 29) (t 30) w wb
def F36_5 (Kn : World → Prop) (x4 : Value) (x5 : Value) (x6 : Value) (x28 : Value) (w : World) : Prop :=
  rdA x4 fun a1 => rdA x5 fun a2 => rdA x6 fun a3 => rgf Try.prog x28 (fun vs4 w5 w6 Kn7 Kx8 => ∃ v9 v10, vs4 = #[v9, v10] ∧ (F36_5r Kn7 Kx8 (.pointer (some a1)) (.pointer (some a2)) (.pointer (some a3)) v9 v10 w5 w6)) w (fun D11 w12 => w12.heap[D11]? = some (.deferred (some [])) ∧ (Kn (w12.putObj D11 (.deferred none)))) (fun c13 D14 w15 => jmp c13 2 (w15.heap[D14]? = some (.deferred (some [])) ∧ False) (w15.heap[D14]? = some (.deferred (some [])) ∧ (Kn (w15.putObj D14 (.deferred none)))))
theorem F36_5_step (Kn : World → Prop) (t : Tm) (w : World) : (F36_5 Kn (t 4) (t 5) (t 6) (t 28) w) = rsh [(4, (.one .adr)), (5, (.one .adr)), (6, (.one .adr))] t (fun t => vcRF Try.prog (orcOf [([1, 1, 0, 1, 0, 0, 1, 0, 1, 1, 1, 1], F36_1O), ([1, 0, 0, 1, 0, 1, 1, 1, 1], F36_2O), ([1, 0, 1, 0, 1, 1, 1, 1], F36_3O)]) [1, 1, 1, 1] F36_5rO (getAt F36_code [1, 1, 1, 1]) (F36_5C Kn) t w) := by kernel_rfl
def F36_5O (Q : Post) (t : Tm) (w : World) : Prop := F36_5 (fun w => ∀ g, rsh [] (upds g []) fun t => Q .normal t w) (t 4) (t 5) (t 6) (t 28) w
theorem F36_5_ok : ∀ Q t w, F36_5O Q t w → Wt Try.prog Try.f36.ntmps (getAt F36_code [1, 1, 1, 1]) Q t w := by
  intro Q t w h
  unfold F36_5O at h
  rw [F36_5_step] at h
  refine (vcRF_sound mixed (orcCons (π := [1, 1, 0, 1, 0, 0, 1, 0, 1, 1, 1, 1]) F36_1_ok (orcCons (π := [1, 0, 0, 1, 0, 1, 1, 1, 1]) F36_2_ok (orcCons (π := [1, 0, 1, 0, 1, 1, 1, 1]) F36_3_ok (orcNil F36_code)))) (ρ := [0, 1, 1, 1, 1]) rfl (okC_at F36_code_ok [1, 1, 1, 1]) rfl (fun g ps a0 bd hg hk t w wb Kn Kx h => ?_) (rsh_out h)).mono ?_
  · unfold F36_5rO at h
    rw [F36_5r_step] at h
    exact vcR_sound mixed (orcCons (π := [1, 1, 0, 1, 0, 0, 1, 0, 1, 1, 1, 1]) F36_1_ok (orcCons (π := [1, 0, 0, 1, 0, 1, 1, 1, 1]) F36_2_ok (orcCons (π := [1, 0, 1, 0, 1, 1, 1, 1]) F36_3_ok (orcNil F36_code)))) hg hk (rsh_out h)
  · intro o t w q
    cases o with
    | normal => exact out_ok [] q
    | exit i => exact q.elim
    | ret => exact q.elim
def F36 (x0 : Value) (x1 : Value) (x2 : Value) (w : World) (K : Value → World → Prop) : Prop :=
  rdP x0 fun p1 => exR95 fun s2 => x1 = s2.v ∧ (rdP x2 fun p3 => alc (.cells s2.c 96) w fun b4 w5 => alc (.cells #[(.pointer p3)] 100) w5 fun b6 w7 => nn p1 fun a8 => ldI .i64 (a8.add 0) w7 fun n9 => ∃ l10a l10n l10c, ∃ w11, Sem.run Try.prog (Instr.makeSlice 125 (.int .i64 n9) (.int .i64 n9)) w7 = .ok (.slice l10a l10n l10c) w11 ∧ (alc (.cells #[(.slice none 0 0)] 125) w11 fun b12 w13 => stc (Addr.mk b12 0 none) (.slice l10a l10n l10c) w13 fun w14 => ldC (Addr.mk b12 0 none) w14 fun _ l15n _ => ∃ k31 : Nat, F36_4 (fun y0_15 y4_15 y5_15 y6_15 w17 => ∀ _g18 : Tm, rdP y0_15 fun p19 => rdA y4_15 fun a20 => rdA y5_15 fun a21 => rdA y6_15 fun a22 => nn p19 fun a23 => ldC (a23.add 2) w17 fun l24a l24n l24c => Calls Try.prog 61 #[(.slice l24a l24n l24c)] w17 fun e26 w25 => ∃ v27, e26 = .returned v27 ∧ (F36_5 (fun w29 => ∀ _g30 : Tm, K (.tuple #[]) w29) (.pointer (some a20)) (.pointer (some a21)) (.pointer (some a22)) v27 w25)) k31 (.pointer p1) (.pointer (some (Addr.mk b4 0 none))) (.pointer (some (Addr.mk b6 0 none))) (.pointer (some (Addr.mk b12 0 none))) (.int .i64 (l15n : Int)) (.int .i64 0) w14))
theorem F36_step (x0 : Value) (x1 : Value) (x2 : Value) (w : World) (K : Value → World → Prop) : (F36 x0 x1 x2 w K) = rsh [(0, (.one .ptr)), (1, (.agg [.slc, .slc, .slc])), (2, (.one .ptr))] (args0 #[x0, x1, x2]) (fun t => vcS Try.prog (orcOf [([1, 1, 0, 1, 0, 0, 1, 0, 1, 1, 1, 1], F36_1O), ([1, 0, 0, 1, 0, 1, 1, 1, 1], F36_2O), ([1, 0, 1, 0, 1, 1, 1, 1], F36_3O), ([0, 1, 0, 1, 1], F36_4O)]) F36_5O 4 [] F36_code (retQ Try.prog Try.f36 K) t w) := by kernel_rfl
theorem F36_ok {x0 x1 x2 : Value} {w : World} {K : Value → World → Prop} (h : F36 x0 x1 x2 w K) : Calls Try.prog 36 #[x0, x1, x2] w fun e w' => ∃ v, e = .returned v ∧ K v w' := by
  rw [F36_step] at h
  exact calls_ofT (c := F36_code) Try.func36 rfl (nlt rfl) (vcS_sound mixed (orcCons (π := [1, 1, 0, 1, 0, 0, 1, 0, 1, 1, 1, 1]) F36_1_ok (orcCons (π := [1, 0, 0, 1, 0, 1, 1, 1, 1]) F36_2_ok (orcCons (π := [1, 0, 1, 0, 1, 1, 1, 1]) F36_3_ok (orcCons (π := [0, 1, 0, 1, 1]) F36_4_ok (orcNil F36_code))))) (fun _ _ _ h => h) 4 [] F36_code rfl F36_code_ok (fun t w h => F36_5_ok _ t w h) _ _ (rsh_out h))

/-! ropewalk/serial.Diff -/
noncomputable def F37_code : Code := Try.f37.body.getD .skip
theorem F37_code_ok : okC Try.prog Try.f37.ntmps F37_code = true := by kernel_rfl
def F37 (x0 : Value) (x1 : Value) (w : World) (K : Value → World → Prop) : Prop :=
  rdI .u32 x0 fun n1 => rdI .u32 x1 fun n2 => Calls Try.prog 62 #[(.int .u32 n1), (.int .u32 n2)] w fun e4 w3 => ∃ n5, e4 = .returned (.int .i64 n5) ∧ (K (.int .i64 n5) w3)
theorem F37_step (x0 : Value) (x1 : Value) (w : World) (K : Value → World → Prop) : (F37 x0 x1 w K) = rsh [(0, (.one (.int .u32))), (1, (.one (.int .u32)))] (args0 #[x0, x1]) (fun t => vc Try.prog (orcOf []) [] F37_code (retQ Try.prog Try.f37 K) t w) := by kernel_rfl
theorem F37_ok {x0 x1 : Value} {w : World} {K : Value → World → Prop} (h : F37 x0 x1 w K) : Calls Try.prog 37 #[x0, x1] w fun e w' => ∃ v, e = .returned v ∧ K v w' := by
  rw [F37_step] at h
  exact calls_of (c := F37_code) mixed Try.func37 rfl (nlt rfl) (vc_sound mixed (orcNil F37_code) F37_code [] rfl F37_code_ok _ _ _ (rsh_out h))

/-! ropewalk/outbox.one -/
noncomputable def F38_code : Code := Try.f38.body.getD .skip
theorem F38_code_ok : okC Try.prog Try.f38.ntmps F38_code = true := by kernel_rfl
def F38 (x0 : Value) (w : World) (K : Value → World → Prop) : Prop :=
  rdP x0 fun p1 => alc (.cells ((R57.mk 0 0 0 0 0 false 0 0 0 0 false none 0 0 false false)).c 58) w fun b2 w3 => br (Option.isNone p1) (stcL (Addr.mk b2 0 none) 0 (R57.mk 0 0 0 0 0 false 0 0 0 0 false none 0 0 false false).l w3 fun w4 => ldR57 (Addr.mk b2 0 none) w4 fun s5 => K (.tuple #[s5.v, (.bool false)]) w4) (nn p1 fun a6 => ldR57 (a6.add 0) w3 fun s7 => Calls Try.prog 30 #[s7.v] w3 fun e9 w8 => exR57 fun s10 => e9 = .returned s10.v ∧ (stcL (Addr.mk b2 0 none) 0 s10.l w8 fun w11 => ldR57 (Addr.mk b2 0 none) w11 fun s12 => K (.tuple #[s12.v, (.bool true)]) w11))
theorem F38_step (x0 : Value) (w : World) (K : Value → World → Prop) : (F38 x0 w K) = rsh [(0, (.one .ptr))] (args0 #[x0]) (fun t => vc Try.prog (orcOf []) [] F38_code (retQ Try.prog Try.f38 K) t w) := by kernel_rfl
theorem F38_ok {x0 : Value} {w : World} {K : Value → World → Prop} (h : F38 x0 w K) : Calls Try.prog 38 #[x0] w fun e w' => ∃ v, e = .returned v ∧ K v w' := by
  rw [F38_step] at h
  exact calls_of (c := F38_code) mixed Try.func38 rfl (nlt rfl) (vc_sound mixed (orcNil F38_code) F38_code [] rfl F38_code_ok _ _ _ (rsh_out h))

/-! (*ropewalk/outbox.Box).find -/
noncomputable def F39_code : Code := Try.f39.body.getD .skip
theorem F39_code_ok : okC Try.prog Try.f39.ntmps F39_code = true := by kernel_rfl
def F39 (x0 : Value) (x1 : Value) (w : World) (K : Value → World → Prop) : Prop :=
  rdP x0 fun p1 => Calls Try.prog 31 #[(.pointer p1)] w fun e3 w2 => ∃ b4, e3 = .returned (.bool b4) ∧ (br (!b4) (K (.pointer none) w2) (nn p1 fun a5 => ldC (a5.add 2) w2 fun l6a l6n l6c => Calls Try.prog 63 #[(.slice l6a l6n l6c), x1] w2 fun e8 w7 => ∃ n9, e8 = .returned (.int .i64 n9) ∧ (br (decide ((n9 : Int) < 0)) (K (.pointer none) w7) (nn p1 fun a10 => ldC (a10.add 2) w7 fun l11a l11n _ => ixS 1 l11a l11n n9 fun a12 => ldP a12 w7 fun p13 => K (.pointer p13) w7))))
theorem F39_step (x0 : Value) (x1 : Value) (w : World) (K : Value → World → Prop) : (F39 x0 x1 w K) = rsh [(0, (.one .ptr))] (args0 #[x0, x1]) (fun t => vc Try.prog (orcOf []) [] F39_code (retQ Try.prog Try.f39 K) t w) := by kernel_rfl
theorem F39_ok {x0 x1 : Value} {w : World} {K : Value → World → Prop} (h : F39 x0 x1 w K) : Calls Try.prog 39 #[x0, x1] w fun e w' => ∃ v, e = .returned v ∧ K v w' := by
  rw [F39_step] at h
  exact calls_of (c := F39_code) mixed Try.func39 rfl (nlt rfl) (vc_sound mixed (orcNil F39_code) F39_code [] rfl F39_code_ok _ _ _ (rsh_out h))

/-! ropewalk/outbox.on -/
noncomputable def F40_code : Code := Try.f40.body.getD .skip
theorem F40_code_ok : okC Try.prog Try.f40.ntmps F40_code = true := by kernel_rfl
def F40 (x0 : Value) (w : World) (K : Value → World → Prop) : Prop :=
  rdI .i64 x0 fun n1 => alc (.cells #[(.int .i64 n1)] 3) w fun b2 w3 => K (.func (.func 64) #[] #[(.pointer (some (Addr.mk b2 0 none)))]) w3
theorem F40_step (x0 : Value) (w : World) (K : Value → World → Prop) : (F40 x0 w K) = rsh [(0, (.one (.int .i64)))] (args0 #[x0]) (fun t => vc Try.prog (orcOf []) [] F40_code (retQ Try.prog Try.f40 K) t w) := by kernel_rfl
theorem F40_ok {x0 : Value} {w : World} {K : Value → World → Prop} (h : F40 x0 w K) : Calls Try.prog 40 #[x0] w fun e w' => ∃ v, e = .returned v ∧ K v w' := by
  rw [F40_step] at h
  exact calls_of (c := F40_code) mixed Try.func40 rfl (nlt rfl) (vc_sound mixed (orcNil F40_code) F40_code [] rfl F40_code_ok _ _ _ (rsh_out h))

/-! (*ropewalk/ropewalkref17.Box).Put -/
noncomputable def F41_code : Code := Try.f41.body.getD .skip
theorem F41_code_ok : okC Try.prog Try.f41.ntmps F41_code = true := by kernel_rfl
def F41_1C (Kr : Value → Value → World → Prop) : Post := fun o t w => match o with | .normal => False | .exit _ => (False) | .ret => Kr (t 8) (t 9) w
def F41_1 (Kr : Value → Value → World → Prop) (x0 : Value) (x1 : Value) (x3 : Value) (x6 : Value) (w : World) : Prop :=
  rdP x0 fun p1 => rdI .i64 x1 fun n2 => rdI .i64 x3 fun n3 => rdA x6 fun a4 => nn p1 fun a5 => ldC (a5.add 2) w fun _ l6n _ => br (decide (((l6n : Int) : Int) ≥ 32768)) (Kr (.int .u32 0) (.int .i64 3) w) (∃ l7a l7n l7c, ∃ w8, Sem.run Try.prog (Instr.buildSlice 23 0 #[]) w = .ok (.slice l7a l7n l7c) w8 ∧ (ldC ((a4.add 0).add 4) w8 fun l9a l9n l9c => ∃ l10a l10n l10c w11, Sem.run Try.prog (Builtin.append_ #[23, 23] 23 #[(.slice l7a l7n l7c), (.slice l9a l9n l9c)]) w8 = .ok (.slice l10a l10n l10c) w11 ∧ (stc ((a4.add 0).add 4) (.slice l10a l10n l10c) w11 fun w12 => Calls Try.prog 48 #[(.pointer p1)] w12 fun e14 w13 => ∃ n15, e14 = .returned (.int .u32 n15) ∧ (drw w13 fun w16 => nn p1 fun a17 => ldC (a17.add 2) w16 fun l18a l18n l18c => ldR40 a4 w16 fun s19 => alc (.cells ((R57.mk n15 n2 1 n3 0 false 1 s19.f0 s19.f1 s19.f2 s19.f3 s19.f4a s19.f4n s19.f4c s19.f5 s19.f6)).c 58) w16 fun b20 w21 => Pres w16 w21 ∧ (∃ l22a l22n l22c w23, Sem.run Try.prog (Builtin.append_ #[54, 54] 54 #[(.slice l18a l18n l18c), (.slice (some (Addr.mk b20 0 none)) 1 1)]) w21 = .ok (.slice l22a l22n l22c) w23 ∧ (nn p1 fun a24 => stc (a24.add 2) (.slice l22a l22n l22c) w23 fun w25 => Kr (.int .u32 n15) (.int .i64 0) w25))))))
def F41_1O (Q : Post) (t : Tm) (w : World) : Prop := F41_1 (fun y8 y9 w => ∀ g, rsh [(8, (.one (.int .u32))), (9, (.one (.int .i64)))] (upds g [(8, y8), (9, y9)]) fun t => Q .ret t w) (t 0) (t 1) (t 3) (t 6) w
theorem F41_1_step (Kr : Value → Value → World → Prop) (t : Tm) (w : World) : (F41_1 Kr (t 0) (t 1) (t 3) (t 6) w) = rsh [(0, (.one .ptr)), (1, (.one (.int .i64))), (3, (.one (.int .i64))), (6, (.one .adr))] t (fun t => vc Try.prog (orcOf []) [1, 1, 1] (getAt F41_code [1, 1, 1]) (F41_1C Kr) t w) := by kernel_rfl
theorem F41_1_ok : ∀ Q t w, F41_1O Q t w → W Try.prog Try.f41.ntmps (getAt F41_code [1, 1, 1]) Q t w := by
  intro Q t w h
  unfold F41_1O at h
  rw [F41_1_step] at h
  refine (vc_sound mixed (orcNil F41_code) _ _ rfl (okC_at F41_code_ok [1, 1, 1]) _ _ _ (rsh_out h)).mono ?_
  intro o t w q
  cases o with
  | normal => exact q.elim
  | exit i => exact q.elim
  | ret => exact out_ok [8, 9] q
def F41 (x0 : Value) (x1 : Value) (x2 : Value) (x3 : Value) (w : World) (K : Value → World → Prop) : Prop :=
  rdP x0 fun p1 => rdI .i64 x1 fun n2 => exR40 fun s3 => x2 = s3.v ∧ (rdI .i64 x3 fun n4 => alc (.cells s3.c 41) w fun b5 w6 => Calls Try.prog 65 #[(.pointer p1), (.int .i64 n2)] w6 fun e8 w7 => ∃ b9, e8 = .returned (.bool b9) ∧ (br (!b9) (K (.tuple #[(.int .u32 0), (.int .i64 90)]) w7) (Calls Try.prog 66 #[(.int .i64 n4)] w7 fun e11 w10 => ∃ b12, e11 = .returned (.bool b12) ∧ (br (!b12) (K (.tuple #[(.int .u32 0), (.int .i64 1)]) w10) (ldC (((Addr.mk b5 0 none).add 0).add 4) w10 fun _ l13n _ => br ((l13n : Int) == 0) (K (.tuple #[(.int .u32 0), (.int .i64 1)]) w10) (ldC (((Addr.mk b5 0 none).add 0).add 4) w10 fun _ l14n _ => br (decide (((l14n : Int) : Int) > 65536)) (K (.tuple #[(.int .u32 0), (.int .i64 1)]) w10) (F41_1 (fun y8_14 y9_14 w16 => ∀ _g17 : Tm, rdI .u32 y8_14 fun n18 => rdI .i64 y9_14 fun n19 => K (.tuple #[(.int .u32 n18), (.int .i64 n19)]) w16) (.pointer p1) (.int .i64 n2) (.int .i64 n4) (.pointer (some (Addr.mk b5 0 none))) w10)))))))
theorem F41_step (x0 : Value) (x1 : Value) (x2 : Value) (x3 : Value) (w : World) (K : Value → World → Prop) : (F41 x0 x1 x2 x3 w K) = rsh [(0, (.one .ptr)), (1, (.one (.int .i64))), (2, (.agg [(.int .u16), (.int .u16), (.int .u32), .bool, .slc, .bool, .bool])), (3, (.one (.int .i64)))] (args0 #[x0, x1, x2, x3]) (fun t => vc Try.prog (orcOf [([1, 1, 1], F41_1O)]) [] F41_code (retQ Try.prog Try.f41 K) t w) := by kernel_rfl
theorem F41_ok {x0 x1 x2 x3 : Value} {w : World} {K : Value → World → Prop} (h : F41 x0 x1 x2 x3 w K) : Calls Try.prog 41 #[x0, x1, x2, x3] w fun e w' => ∃ v, e = .returned v ∧ K v w' := by
  rw [F41_step] at h
  exact calls_of (c := F41_code) mixed Try.func41 rfl (nlt rfl) (vc_sound mixed (orcCons (π := [1, 1, 1]) F41_1_ok (orcNil F41_code)) F41_code [] rfl F41_code_ok _ _ _ (rsh_out h))

/-! (*ropewalk/ropewalkref17.Box).Again -/
noncomputable def F42_code : Code := Try.f42.body.getD .skip
theorem F42_code_ok : okC Try.prog Try.f42.ntmps F42_code = true := by kernel_rfl
def F42_1C (K0 : Value → World → Prop) (Kr : Value → Value → Value → World → Prop) : Post := fun o t w => match o with | .normal => False | .exit i => (match Nat.beq i 0 with | true => K0 (t 6) w | false => False) | .ret => Kr (t 6) (t 7) (t 8) w
def F42_1B (R : Value → Value → Value → Value → Value → World → Prop) (K0 : Value → World → Prop) (Kr : Value → Value → Value → World → Prop) (x0 : Value) (x1 : Value) (x2 : Value) (x6 : Value) (x9 : Value) (w : World) : Prop :=
  rdP x0 fun p1 => rdI .i64 x1 fun n2 => rdI .i64 x2 fun n3 => rdA x6 fun a4 => rdI .i64 x9 fun n5 => nn p1 fun a6 => ldC (a6.add 2) w fun _ l7n _ => br (decide ((n5 : Int) < (l7n : Int))) (nn p1 fun a8 => ldC (a8.add 2) w fun l9a l9n _ => ixS 14 l9a l9n n5 fun a10 => ldI .i64 (a10.add 6) w fun n11 => br (n11 == 2) (nn p1 fun a12 => ldC (a12.add 2) w fun l13a l13n _ => ixS 14 l13a l13n n5 fun a14 => stc (a14.add 6) (.int .i64 1) w fun w15 => stc (a14.add 1) (.int .i64 n2) w15 fun w16 => stc (a14.add 3) (.int .i64 n3) w16 fun w17 => stc (a14.add 4) (.int .i64 0) w17 fun w18 => ldI .i64 (a14.add 2) w18 fun n19 => stc (a14.add 2) (.int .i64 (IntKind.wrap .i64 (n19 + 1))) w18 fun w20 => ldR57 a14 w20 fun s21 => stcL a4 0 s21.l w20 fun w22 => Kr (.pointer (some a4)) (.bool true) (.int .i64 0) w22) (R (.pointer p1) (.int .i64 n2) (.int .i64 n3) (.pointer (some a4)) (.int .i64 (IntKind.wrap .i64 (n5 + 1))) w)) (K0 (.pointer (some a4)) w)
def F42_1 (K0 : Value → World → Prop) (Kr : Value → Value → Value → World → Prop) : Nat → Value → Value → Value → Value → Value → World → Prop
  | 0 => fun _ _ _ _ _ _ => False
  | n + 1 => F42_1B (F42_1 K0 Kr n) K0 Kr
def F42_1O (Q : Post) (t : Tm) (w : World) : Prop := ∃ n, F42_1 (fun y6 w => ∀ g, rsh [(6, (.one .adr))] (upds g [(6, y6)]) fun t => Q (.exit 0) t w) (fun y6 y7 y8 w => ∀ g, rsh [(6, (.one .adr)), (7, (.one .bool)), (8, (.one (.int .i64)))] (upds g [(6, y6), (7, y7), (8, y8)]) fun t => Q .ret t w) n (t 0) (t 1) (t 2) (t 6) (t 9) w
theorem F42_1_step (K0 : Value → World → Prop) (Kr : Value → Value → Value → World → Prop) (n : Nat) (t : Tm) (w : World) : (F42_1 K0 Kr (n + 1) (t 0) (t 1) (t 2) (t 6) (t 9) w) = rsh [(0, (.one .ptr)), (1, (.one (.int .i64))), (2, (.one (.int .i64))), (6, (.one .adr)), (9, (.one (.int .i64)))] t (fun t => vc Try.prog (orcOf []) [0, 0, 1, 0, 1, 1, 1] (getAt F42_code [0, 0, 1, 0, 1, 1, 1]) (fun o t w => match o with | .normal => F42_1 K0 Kr n (t 0) (t 1) (t 2) (t 6) (t 9) w | .exit i => F42_1C K0 Kr (.exit i) t w | .ret => F42_1C K0 Kr .ret t w) t w) := by kernel_rfl
theorem F42_1_ok : ∀ Q t w, F42_1O Q t w → W Try.prog Try.f42.ntmps (getAt F42_code [0, 1, 0, 1, 1, 1]) Q t w := by
  intro Q t w ⟨n, h⟩
  refine (W_loop (P := Try.prog) (b := getAt F42_code [0, 0, 1, 0, 1, 1, 1]) (Q := F42_1C (fun y6 w => ∀ g, rsh [(6, (.one .adr))] (upds g [(6, y6)]) fun t => Q (.exit 0) t w) (fun y6 y7 y8 w => ∀ g, rsh [(6, (.one .adr)), (7, (.one .bool)), (8, (.one (.int .i64)))] (upds g [(6, y6), (7, y7), (8, y8)]) fun t => Q .ret t w)) (G := fun n t w => F42_1 (fun y6 w => ∀ g, rsh [(6, (.one .adr))] (upds g [(6, y6)]) fun t => Q (.exit 0) t w) (fun y6 y7 y8 w => ∀ g, rsh [(6, (.one .adr)), (7, (.one .bool)), (8, (.one (.int .i64)))] (upds g [(6, y6), (7, y7), (8, y8)]) fun t => Q .ret t w) n (t 0) (t 1) (t 2) (t 6) (t 9) w) (fun _ _ h => h) (fun n t w h => ?_) n t w h).mono ?_
  · rw [F42_1_step] at h
    exact vc_sound mixed (orcNil F42_code) _ _ rfl (okC_at F42_code_ok [0, 0, 1, 0, 1, 1, 1]) _ _ _ (rsh_out h)
  · intro o t w q
    cases o with
    | normal => exact q.elim
    | exit i =>
      unfold F42_1C at q
      simp only at q
      split at q
      · rename_i hi
        rw [nbeq] at hi
        subst hi
        exact out_ok [6] q
      · exact q.elim
    | ret => exact out_ok [6, 7, 8] q
def F42 (x0 : Value) (x1 : Value) (x2 : Value) (w : World) (K : Value → World → Prop) : Prop :=
  rdP x0 fun p1 => rdI .i64 x1 fun n2 => rdI .i64 x2 fun n3 => alc (.cells ((R57.mk 0 0 0 0 0 false 0 0 0 0 false none 0 0 false false)).c 58) w fun b4 w5 => Calls Try.prog 65 #[(.pointer p1), (.int .i64 n2)] w5 fun e7 w6 => ∃ b8, e7 = .returned (.bool b8) ∧ (br (!b8) (stcL (Addr.mk b4 0 none) 0 (R57.mk 0 0 0 0 0 false 0 0 0 0 false none 0 0 false false).l w6 fun w9 => ldR57 (Addr.mk b4 0 none) w9 fun s10 => K (.tuple #[s10.v, (.bool false), (.int .i64 90)]) w9) (Calls Try.prog 66 #[(.int .i64 n3)] w6 fun e12 w11 => ∃ b13, e12 = .returned (.bool b13) ∧ (br (!b13) (stcL (Addr.mk b4 0 none) 0 (R57.mk 0 0 0 0 0 false 0 0 0 0 false none 0 0 false false).l w11 fun w14 => ldR57 (Addr.mk b4 0 none) w14 fun s15 => K (.tuple #[s15.v, (.bool false), (.int .i64 1)]) w14) (∃ k29 : Nat, F42_1 (fun y6_15 w17 => ∀ _g18 : Tm, rdA y6_15 fun a19 => stcL a19 0 (R57.mk 0 0 0 0 0 false 0 0 0 0 false none 0 0 false false).l w17 fun w20 => ldR57 a19 w20 fun s21 => K (.tuple #[s21.v, (.bool false), (.int .i64 0)]) w20) (fun y6_21 y7_21 y8_21 w23 => ∀ _g24 : Tm, rdA y6_21 fun a25 => rdB y7_21 fun b26 => rdI .i64 y8_21 fun n27 => ldR57 a25 w23 fun s28 => K (.tuple #[s28.v, (.bool b26), (.int .i64 n27)]) w23) k29 (.pointer p1) (.int .i64 n2) (.int .i64 n3) (.pointer (some (Addr.mk b4 0 none))) (.int .i64 0) w11))))
theorem F42_step (x0 : Value) (x1 : Value) (x2 : Value) (w : World) (K : Value → World → Prop) : (F42 x0 x1 x2 w K) = rsh [(0, (.one .ptr)), (1, (.one (.int .i64))), (2, (.one (.int .i64)))] (args0 #[x0, x1, x2]) (fun t => vc Try.prog (orcOf [([0, 1, 0, 1, 1, 1], F42_1O)]) [] F42_code (retQ Try.prog Try.f42 K) t w) := by kernel_rfl
theorem F42_ok {x0 x1 x2 : Value} {w : World} {K : Value → World → Prop} (h : F42 x0 x1 x2 w K) : Calls Try.prog 42 #[x0, x1, x2] w fun e w' => ∃ v, e = .returned v ∧ K v w' := by
  rw [F42_step] at h
  exact calls_of (c := F42_code) mixed Try.func42 rfl (nlt rfl) (vc_sound mixed (orcCons (π := [0, 1, 0, 1, 1, 1]) F42_1_ok (orcNil F42_code)) F42_code [] rfl F42_code_ok _ _ _ (rsh_out h))

/-! ropewalk/ropewalkref17.Same -/
noncomputable def F43_code : Code := Try.f43.body.getD .skip
theorem F43_code_ok : okC Try.prog Try.f43.ntmps F43_code = true := by kernel_rfl
def F43_1C (Kr : Value → World → Prop) : Post := fun o t w => match o with | .normal => False | .exit _ => (False) | .ret => Kr (t 4) w
def F43_1 (Kr : Value → World → Prop) (x2 : Value) (x3 : Value) (x5 : Value) (x6 : Value) (w : World) : Prop :=
  rdA x2 fun a1 => rdA x3 fun a2 => rdA x5 fun a3 => rdA x6 fun a4 => ldI .u32 (a1.add 0) w fun n5 => ldI .u32 (a2.add 0) w fun n6 => br (n5 == n6) (ldI .i64 (a1.add 1) w fun n7 => ldI .i64 (a2.add 1) w fun n8 => br (n7 == n8) (ldI .i64 (a1.add 2) w fun n9 => ldI .i64 (a2.add 2) w fun n10 => br (n9 == n10) (ldI .i64 (a1.add 3) w fun n11 => ldI .i64 (a2.add 3) w fun n12 => br (n11 == n12) (ldI .i64 (a1.add 4) w fun n13 => ldI .i64 (a2.add 4) w fun n14 => br (n13 == n14) (ldB (a1.add 5) w fun b15 => ldB (a2.add 5) w fun b16 => br (b15 == b16) (ldI .i64 (a1.add 6) w fun n17 => ldI .i64 (a2.add 6) w fun n18 => br (n17 == n18) (ldI .u16 ((a3.add 0).add 0) w fun n19 => ldI .u16 ((a4.add 0).add 0) w fun n20 => br (n19 == n20) (ldI .u16 ((a3.add 0).add 1) w fun n21 => ldI .u16 ((a4.add 0).add 1) w fun n22 => br (n21 == n22) (ldI .u32 ((a3.add 0).add 2) w fun n23 => ldI .u32 ((a4.add 0).add 2) w fun n24 => br (n23 == n24) (ldB ((a3.add 0).add 3) w fun b25 => ldB ((a4.add 0).add 3) w fun b26 => br (b25 == b26) (ldB (a3.add 5) w fun b27 => ldB (a4.add 5) w fun b28 => br (b27 == b28) (ldB (a3.add 6) w fun b29 => ldB (a4.add 6) w fun b30 => br (b29 == b30) (ldC ((a3.add 0).add 4) w fun l31a l31n l31c => ∃ s32, ∃ w33, Sem.run Try.prog (convert 23 9 (.slice l31a l31n l31c)) w = .ok (.string s32) w33 ∧ (ldC ((a4.add 0).add 4) w33 fun l34a l34n l34c => ∃ s35, ∃ w36, Sem.run Try.prog (convert 23 9 (.slice l34a l34n l34c)) w33 = .ok (.string s35) w36 ∧ (Kr (.bool (ByteArray.toList s32 == ByteArray.toList s35)) w36))) (Kr (.bool false) w)) (Kr (.bool false) w)) (Kr (.bool false) w)) (Kr (.bool false) w)) (Kr (.bool false) w)) (Kr (.bool false) w)) (Kr (.bool false) w)) (Kr (.bool false) w)) (Kr (.bool false) w)) (Kr (.bool false) w)) (Kr (.bool false) w)) (Kr (.bool false) w)) (Kr (.bool false) w)
def F43_1O (Q : Post) (t : Tm) (w : World) : Prop := F43_1 (fun y4 w => ∀ g, rsh [(4, (.one .bool))] (upds g [(4, y4)]) fun t => Q .ret t w) (t 2) (t 3) (t 5) (t 6) w
theorem F43_1_step (Kr : Value → World → Prop) (t : Tm) (w : World) : (F43_1 Kr (t 2) (t 3) (t 5) (t 6) w) = rsh [(2, (.one .adr)), (3, (.one .adr)), (5, (.one .adr)), (6, (.one .adr))] t (fun t => vc Try.prog (orcOf []) [1, 1] (getAt F43_code [1, 1]) (F43_1C Kr) t w) := by kernel_rfl
theorem F43_1_ok : ∀ Q t w, F43_1O Q t w → W Try.prog Try.f43.ntmps (getAt F43_code [1, 1]) Q t w := by
  intro Q t w h
  unfold F43_1O at h
  rw [F43_1_step] at h
  refine (vc_sound mixed (orcNil F43_code) _ _ rfl (okC_at F43_code_ok [1, 1]) _ _ _ (rsh_out h)).mono ?_
  intro o t w q
  cases o with
  | normal => exact q.elim
  | exit i => exact q.elim
  | ret => exact out_ok [4] q
def F43 (x0 : Value) (x1 : Value) (w : World) (K : Value → World → Prop) : Prop :=
  exR57 fun s1 => x0 = s1.v ∧ (exR57 fun s2 => x1 = s2.v ∧ (alc (.cells s1.c 58) w fun b3 w4 => alc (.cells s2.c 58) w4 fun b5 w6 => drw w6 fun w7 => ∃ w8 : World, Pres w8 w7 ∧ (ldR40 ((Addr.mk b3 0 none).add 7) w8 fun s9 => ldR40 ((Addr.mk b5 0 none).add 7) w8 fun s10 => ((alc (.cells ((R40.mk 0 0 0 false none 0 0 false false)).c 41) w7 fun b11 w12 => Pres w8 w12 ∧ (alc (.cells ((R40.mk 0 0 0 false none 0 0 false false)).c 41) w12 fun b13 w14 => Pres w8 w14 ∧ (stcL (Addr.mk b11 0 none) 0 s9.l w14 fun w15 => Pres w8 w15 ∧ (stcL (Addr.mk b13 0 none) 0 s10.l w15 fun w16 => F43_1 (fun y4_16 w18 => ∀ _g19 : Tm, rdB y4_16 fun b20 => K (.bool b20) w18) (.pointer (some (Addr.mk b3 0 none))) (.pointer (some (Addr.mk b5 0 none))) (.pointer (some (Addr.mk b11 0 none))) (.pointer (some (Addr.mk b13 0 none))) w16)))) ∧ (alc (.cells ((R40.mk 0 0 0 false none 0 0 false false)).c 41) w7 fun b21 w22 => Pres w8 w22 ∧ (alc (.cells ((R40.mk 0 0 0 false none 0 0 false false)).c 41) w22 fun b23 w24 => Pres w8 w24 ∧ (stcL (Addr.mk b23 0 none) 0 s9.l w24 fun w25 => Pres w8 w25 ∧ (stcL (Addr.mk b21 0 none) 0 s10.l w25 fun w26 => F43_1 (fun y4_26 w28 => ∀ _g29 : Tm, rdB y4_26 fun b30 => K (.bool b30) w28) (.pointer (some (Addr.mk b3 0 none))) (.pointer (some (Addr.mk b5 0 none))) (.pointer (some (Addr.mk b23 0 none))) (.pointer (some (Addr.mk b21 0 none))) w26))))))))
theorem F43_step (x0 : Value) (x1 : Value) (w : World) (K : Value → World → Prop) : (F43 x0 x1 w K) = rsh [(0, (.agg [(.int .u32), (.int .i64), (.int .i64), (.int .i64), (.int .i64), .bool, (.int .i64), (.int .u16), (.int .u16), (.int .u32), .bool, .slc, .bool, .bool])), (1, (.agg [(.int .u32), (.int .i64), (.int .i64), (.int .i64), (.int .i64), .bool, (.int .i64), (.int .u16), (.int .u16), (.int .u32), .bool, .slc, .bool, .bool]))] (args0 #[x0, x1]) (fun t => vc Try.prog (orcOf [([1, 1], F43_1O)]) [] F43_code (retQ Try.prog Try.f43 K) t w) := by kernel_rfl
theorem F43_ok {x0 x1 : Value} {w : World} {K : Value → World → Prop} (h : F43 x0 x1 w K) : Calls Try.prog 43 #[x0, x1] w fun e w' => ∃ v, e = .returned v ∧ K v w' := by
  rw [F43_step] at h
  exact calls_of (c := F43_code) mixed Try.func43 rfl (nlt rfl) (vc_sound mixed (orcCons (π := [1, 1]) F43_1_ok (orcNil F43_code)) F43_code [] rfl F43_code_ok _ _ _ (rsh_out h))

/-! (*ropewalk/ropewalkref17.Box).Report -/
noncomputable def F44_code : Code := Try.f44.body.getD .skip
theorem F44_code_ok : okC Try.prog Try.f44.ntmps F44_code = true := by kernel_rfl
def F44_1C (Kn : Value → Value → Value → Value → Value → Value → World → Prop) : Post := fun o t w => match o with | .normal => Kn (t 0) (t 4) (t 6) (t 8) (t 10) (t 11) w | .exit _ => (False) | .ret => False
def F44_1 (Kn : Value → Value → Value → Value → Value → Value → World → Prop) (x0 : Value) (x4 : Value) (x6 : Value) (x8 : Value) (x10 : Value) (x11 : Value) (x14 : Value) (x167 : Value) (w : World) : Prop :=
  rdP x0 fun p1 => rdA x4 fun a2 => rdA x6 fun a3 => rdA x8 fun a4 => rdC x10 fun l5a l5n l5c => rdI .i64 x11 fun n6 => rdP x14 fun p7 => rdB x167 fun b8 => br b8 (nn p7 fun a9 => stc (a9.add 6) (.int .i64 4) w fun w10 => drw w10 fun w11 => ∃ w12 : World, Pres w12 w11 ∧ (ldI .i64 (a4.add 1) w12 fun n13 => nn p7 fun a14 => ldR57 a14 w11 fun s15 => Calls Try.prog 74 #[s15.v] w11 fun e17 w16 => ∃ n18, e17 = .returned (.int .i64 n18) ∧ (Pres w12 w16 ∧ (stc (a4.add 1) (.int .i64 (IntKind.wrap .i64 (n13 + n18))) w16 fun w19 => Kn (.pointer p1) (.pointer (some a2)) (.pointer (some a3)) (.pointer (some a4)) (.slice l5a l5n l5c) (.int .i64 n6) w19)))) (Kn (.pointer p1) (.pointer (some a2)) (.pointer (some a3)) (.pointer (some a4)) (.slice l5a l5n l5c) (.int .i64 n6) w)
def F44_1O (Q : Post) (t : Tm) (w : World) : Prop := F44_1 (fun y0 y4 y6 y8 y10 y11 w => ∀ g, rsh [(0, (.one .ptr)), (4, (.one .adr)), (6, (.one .adr)), (8, (.one .adr)), (10, (.one .slc)), (11, (.one (.int .i64)))] (upds g [(0, y0), (4, y4), (6, y6), (8, y8), (10, y10), (11, y11)]) fun t => Q .normal t w) (t 0) (t 4) (t 6) (t 8) (t 10) (t 11) (t 14) (t 167) w
theorem F44_1_step (Kn : Value → Value → Value → Value → Value → Value → World → Prop) (t : Tm) (w : World) : (F44_1 Kn (t 0) (t 4) (t 6) (t 8) (t 10) (t 11) (t 14) (t 167) w) = rsh [(0, (.one .ptr)), (4, (.one .adr)), (6, (.one .adr)), (8, (.one .adr)), (10, (.one .slc)), (11, (.one (.int .i64))), (14, (.one .ptr)), (167, (.one .bool))] t (fun t => vc Try.prog (orcOf []) [1, 1, 1, 1, 1, 1, 0, 0, 1, 0, 0, 1, 0, 1, 1, 1, 1, 1, 1, 1, 1] (getAt F44_code [1, 1, 1, 1, 1, 1, 0, 0, 1, 0, 0, 1, 0, 1, 1, 1, 1, 1, 1, 1, 1]) (F44_1C Kn) t w) := by kernel_rfl
theorem F44_1_ok : ∀ Q t w, F44_1O Q t w → W Try.prog Try.f44.ntmps (getAt F44_code [1, 1, 1, 1, 1, 1, 0, 0, 1, 0, 0, 1, 0, 1, 1, 1, 1, 1, 1, 1, 1]) Q t w := by
  intro Q t w h
  unfold F44_1O at h
  rw [F44_1_step] at h
  refine (vc_sound mixed (orcNil F44_code) _ _ rfl (okC_at F44_code_ok [1, 1, 1, 1, 1, 1, 0, 0, 1, 0, 0, 1, 0, 1, 1, 1, 1, 1, 1, 1, 1]) _ _ _ (rsh_out h)).mono ?_
  intro o t w q
  cases o with
  | normal => exact out_ok [0, 4, 6, 8, 10, 11] q
  | exit i => exact q.elim
  | ret => exact q.elim
def F44_2C (Kn : Value → Value → Value → Value → Value → Value → Value → Value → World → Prop) : Post := fun o t w => match o with | .normal => Kn (t 0) (t 4) (t 6) (t 8) (t 10) (t 11) (t 13) (t 14) w | .exit _ => (False) | .ret => False
def F44_2 (Kn : Value → Value → Value → Value → Value → Value → Value → Value → World → Prop) (x0 : Value) (x4 : Value) (x6 : Value) (x8 : Value) (x10 : Value) (x11 : Value) (x13 : Value) (x14 : Value) (x138 : Value) (w : World) : Prop :=
  rdP x0 fun p1 => rdA x4 fun a2 => rdA x6 fun a3 => rdA x8 fun a4 => rdC x10 fun l5a l5n l5c => rdI .i64 x11 fun n6 => rdB x13 fun b7 => rdP x14 fun p8 => rdB x138 fun b9 => br b9 (nn p8 fun a10 => stc (a10.add 6) (.int .i64 2) w fun w11 => nn p8 fun a12 => stc (a12.add 4) (.int .i64 0) w11 fun w13 => drw w13 fun w14 => ∃ w15 : World, Pres w15 w14 ∧ (ldI .i64 (a4.add 2) w15 fun n16 => nn p8 fun a17 => ldR57 a17 w14 fun s18 => Calls Try.prog 74 #[s18.v] w14 fun e20 w19 => ∃ n21, e20 = .returned (.int .i64 n21) ∧ (Pres w15 w19 ∧ (stc (a4.add 2) (.int .i64 (IntKind.wrap .i64 (n16 + n21))) w19 fun w22 => Kn (.pointer p1) (.pointer (some a2)) (.pointer (some a3)) (.pointer (some a4)) (.slice l5a l5n l5c) (.int .i64 n6) (.bool b7) (.pointer p8) w22)))) (Kn (.pointer p1) (.pointer (some a2)) (.pointer (some a3)) (.pointer (some a4)) (.slice l5a l5n l5c) (.int .i64 n6) (.bool b7) (.pointer p8) w)
def F44_2O (Q : Post) (t : Tm) (w : World) : Prop := F44_2 (fun y0 y4 y6 y8 y10 y11 y13 y14 w => ∀ g, rsh [(0, (.one .ptr)), (4, (.one .adr)), (6, (.one .adr)), (8, (.one .adr)), (10, (.one .slc)), (11, (.one (.int .i64))), (13, (.one .bool)), (14, (.one .ptr))] (upds g [(0, y0), (4, y4), (6, y6), (8, y8), (10, y10), (11, y11), (13, y13), (14, y14)]) fun t => Q .normal t w) (t 0) (t 4) (t 6) (t 8) (t 10) (t 11) (t 13) (t 14) (t 138) w
theorem F44_2_step (Kn : Value → Value → Value → Value → Value → Value → Value → Value → World → Prop) (t : Tm) (w : World) : (F44_2 Kn (t 0) (t 4) (t 6) (t 8) (t 10) (t 11) (t 13) (t 14) (t 138) w) = rsh [(0, (.one .ptr)), (4, (.one .adr)), (6, (.one .adr)), (8, (.one .adr)), (10, (.one .slc)), (11, (.one (.int .i64))), (13, (.one .bool)), (14, (.one .ptr)), (138, (.one .bool))] t (fun t => vc Try.prog (orcOf []) [1, 0, 1, 1, 1, 0, 0, 1, 0, 0, 1, 0, 1, 1, 1, 1, 1, 1, 1, 1] (getAt F44_code [1, 0, 1, 1, 1, 0, 0, 1, 0, 0, 1, 0, 1, 1, 1, 1, 1, 1, 1, 1]) (F44_2C Kn) t w) := by kernel_rfl
theorem F44_2_ok : ∀ Q t w, F44_2O Q t w → W Try.prog Try.f44.ntmps (getAt F44_code [1, 0, 1, 1, 1, 0, 0, 1, 0, 0, 1, 0, 1, 1, 1, 1, 1, 1, 1, 1]) Q t w := by
  intro Q t w h
  unfold F44_2O at h
  rw [F44_2_step] at h
  refine (vc_sound mixed (orcNil F44_code) _ _ rfl (okC_at F44_code_ok [1, 0, 1, 1, 1, 0, 0, 1, 0, 0, 1, 0, 1, 1, 1, 1, 1, 1, 1, 1]) _ _ _ (rsh_out h)).mono ?_
  intro o t w q
  cases o with
  | normal => exact out_ok [0, 4, 6, 8, 10, 11, 13, 14] q
  | exit i => exact q.elim
  | ret => exact q.elim
def F44_3C (Kn : Value → Value → Value → Value → Value → Value → World → Prop) : Post := fun o t w => match o with | .normal => Kn (t 0) (t 4) (t 6) (t 8) (t 10) (t 15) w | .exit _ => (False) | .ret => False
def F44_3 (Kn : Value → Value → Value → Value → Value → Value → World → Prop) (x0 : Value) (x4 : Value) (x6 : Value) (x8 : Value) (x10 : Value) (x15 : Value) (x16 : Value) (x224 : Value) (w : World) : Prop :=
  rdP x0 fun p1 => rdA x4 fun a2 => rdA x6 fun a3 => rdA x8 fun a4 => rdC x10 fun l5a l5n l5c => rdI .i64 x15 fun n6 => rdP x16 fun p7 => rdB x224 fun b8 => br b8 (nn p7 fun a9 => stc (a9.add 6) (.int .i64 2) w fun w10 => nn p7 fun a11 => stc (a11.add 5) (.bool true) w10 fun w12 => nn p7 fun a13 => stc (a13.add 4) (.int .i64 0) w12 fun w14 => drw w14 fun w15 => ∃ w16 : World, Pres w16 w15 ∧ (ldC (a4.add 0) w16 fun l17a l17n _ => nn p7 fun a18 => ldI .i64 (a18.add 1) w16 fun n19 => ldC (a4.add 0) w16 fun l20a l20n _ => nn p7 fun a21 => ldI .i64 (a21.add 1) w16 fun n22 => ixS 4 l20a l20n n22 fun a23 => ldI .i64 (a23.add 3) w16 fun n24 => nn p7 fun a25 => ldR57 a25 w15 fun s26 => Calls Try.prog 74 #[s26.v] w15 fun e28 w27 => ∃ n29, e28 = .returned (.int .i64 n29) ∧ (Pres w16 w27 ∧ (ixS 4 l17a l17n n19 fun a30 => stc (a30.add 3) (.int .i64 (IntKind.wrap .i64 (n24 + n29))) w27 fun w31 => Kn (.pointer p1) (.pointer (some a2)) (.pointer (some a3)) (.pointer (some a4)) (.slice l5a l5n l5c) (.int .i64 n6) w31)))) (Kn (.pointer p1) (.pointer (some a2)) (.pointer (some a3)) (.pointer (some a4)) (.slice l5a l5n l5c) (.int .i64 n6) w)
def F44_3O (Q : Post) (t : Tm) (w : World) : Prop := F44_3 (fun y0 y4 y6 y8 y10 y15 w => ∀ g, rsh [(0, (.one .ptr)), (4, (.one .adr)), (6, (.one .adr)), (8, (.one .adr)), (10, (.one .slc)), (15, (.one (.int .i64)))] (upds g [(0, y0), (4, y4), (6, y6), (8, y8), (10, y10), (15, y15)]) fun t => Q .normal t w) (t 0) (t 4) (t 6) (t 8) (t 10) (t 15) (t 16) (t 224) w
theorem F44_3_step (Kn : Value → Value → Value → Value → Value → Value → World → Prop) (t : Tm) (w : World) : (F44_3 Kn (t 0) (t 4) (t 6) (t 8) (t 10) (t 15) (t 16) (t 224) w) = rsh [(0, (.one .ptr)), (4, (.one .adr)), (6, (.one .adr)), (8, (.one .adr)), (10, (.one .slc)), (15, (.one (.int .i64))), (16, (.one .ptr)), (224, (.one .bool))] t (fun t => vc Try.prog (orcOf []) [1, 1, 1, 1, 0, 0, 1, 0, 0, 1, 0, 1, 1, 1, 1, 1, 1, 1, 1, 1] (getAt F44_code [1, 1, 1, 1, 0, 0, 1, 0, 0, 1, 0, 1, 1, 1, 1, 1, 1, 1, 1, 1]) (F44_3C Kn) t w) := by kernel_rfl
theorem F44_3_ok : ∀ Q t w, F44_3O Q t w → W Try.prog Try.f44.ntmps (getAt F44_code [1, 1, 1, 1, 0, 0, 1, 0, 0, 1, 0, 1, 1, 1, 1, 1, 1, 1, 1, 1]) Q t w := by
  intro Q t w h
  unfold F44_3O at h
  rw [F44_3_step] at h
  refine (vc_sound mixed (orcNil F44_code) _ _ rfl (okC_at F44_code_ok [1, 1, 1, 1, 0, 0, 1, 0, 0, 1, 0, 1, 1, 1, 1, 1, 1, 1, 1, 1]) _ _ _ (rsh_out h)).mono ?_
  intro o t w q
  cases o with
  | normal => exact out_ok [0, 4, 6, 8, 10, 15] q
  | exit i => exact q.elim
  | ret => exact q.elim
def F44_4C (Kn : Value → Value → Value → Value → Value → Value → World → Prop) : Post := fun o t w => match o with | .normal => Kn (t 0) (t 4) (t 6) (t 8) (t 10) (t 11) w | .exit _ => (False) | .ret => False
def F44_4 (Kn : Value → Value → Value → Value → Value → Value → World → Prop) (x0 : Value) (x4 : Value) (x6 : Value) (x8 : Value) (x10 : Value) (x11 : Value) (x13 : Value) (x14 : Value) (w : World) : Prop :=
  rdP x0 fun p1 => rdA x4 fun a2 => rdA x6 fun a3 => rdA x8 fun a4 => rdC x10 fun l5a l5n l5c => rdI .i64 x11 fun n6 => rdB x13 fun b7 => rdP x14 fun p8 => br b7 (nn p8 fun a9 => ldI .i64 (a9.add 6) w fun n10 => F44_1 (fun y0_10 y4_10 y6_10 y8_10 y10_10 y11_10 w12 => ∀ _g13 : Tm, rdP y0_10 fun p14 => rdA y4_10 fun a15 => rdA y6_10 fun a16 => rdA y8_10 fun a17 => rdC y10_10 fun l18a l18n l18c => rdI .i64 y11_10 fun n19 => Kn (.pointer p14) (.pointer (some a15)) (.pointer (some a16)) (.pointer (some a17)) (.slice l18a l18n l18c) (.int .i64 n19) w12) (.pointer p1) (.pointer (some a2)) (.pointer (some a3)) (.pointer (some a4)) (.slice l5a l5n l5c) (.int .i64 n6) (.pointer p8) (.bool (n10 == 3)) w) (F44_1 (fun y0_19 y4_19 y6_19 y8_19 y10_19 y11_19 w21 => ∀ _g22 : Tm, rdP y0_19 fun p23 => rdA y4_19 fun a24 => rdA y6_19 fun a25 => rdA y8_19 fun a26 => rdC y10_19 fun l27a l27n l27c => rdI .i64 y11_19 fun n28 => Kn (.pointer p23) (.pointer (some a24)) (.pointer (some a25)) (.pointer (some a26)) (.slice l27a l27n l27c) (.int .i64 n28) w21) (.pointer p1) (.pointer (some a2)) (.pointer (some a3)) (.pointer (some a4)) (.slice l5a l5n l5c) (.int .i64 n6) (.pointer p8) (.bool false) w)
def F44_4O (Q : Post) (t : Tm) (w : World) : Prop := F44_4 (fun y0 y4 y6 y8 y10 y11 w => ∀ g, rsh [(0, (.one .ptr)), (4, (.one .adr)), (6, (.one .adr)), (8, (.one .adr)), (10, (.one .slc)), (11, (.one (.int .i64)))] (upds g [(0, y0), (4, y4), (6, y6), (8, y8), (10, y10), (11, y11)]) fun t => Q .normal t w) (t 0) (t 4) (t 6) (t 8) (t 10) (t 11) (t 13) (t 14) w
theorem F44_4_step (Kn : Value → Value → Value → Value → Value → Value → World → Prop) (t : Tm) (w : World) : (F44_4 Kn (t 0) (t 4) (t 6) (t 8) (t 10) (t 11) (t 13) (t 14) w) = rsh [(0, (.one .ptr)), (4, (.one .adr)), (6, (.one .adr)), (8, (.one .adr)), (10, (.one .slc)), (11, (.one (.int .i64))), (13, (.one .bool)), (14, (.one .ptr))] t (fun t => vc Try.prog (orcOf [([1, 1, 1, 1, 1, 1, 0, 0, 1, 0, 0, 1, 0, 1, 1, 1, 1, 1, 1, 1, 1], F44_1O)]) [1, 1, 1, 1, 1, 0, 0, 1, 0, 0, 1, 0, 1, 1, 1, 1, 1, 1, 1, 1] (getAt F44_code [1, 1, 1, 1, 1, 0, 0, 1, 0, 0, 1, 0, 1, 1, 1, 1, 1, 1, 1, 1]) (F44_4C Kn) t w) := by kernel_rfl
theorem F44_4_ok : ∀ Q t w, F44_4O Q t w → W Try.prog Try.f44.ntmps (getAt F44_code [1, 1, 1, 1, 1, 0, 0, 1, 0, 0, 1, 0, 1, 1, 1, 1, 1, 1, 1, 1]) Q t w := by
  intro Q t w h
  unfold F44_4O at h
  rw [F44_4_step] at h
  refine (vc_sound mixed (orcCons (π := [1, 1, 1, 1, 1, 1, 0, 0, 1, 0, 0, 1, 0, 1, 1, 1, 1, 1, 1, 1, 1]) F44_1_ok (orcNil F44_code)) _ _ rfl (okC_at F44_code_ok [1, 1, 1, 1, 1, 0, 0, 1, 0, 0, 1, 0, 1, 1, 1, 1, 1, 1, 1, 1]) _ _ _ (rsh_out h)).mono ?_
  intro o t w q
  cases o with
  | normal => exact out_ok [0, 4, 6, 8, 10, 11] q
  | exit i => exact q.elim
  | ret => exact q.elim
def F44_5C (Kn : Value → Value → Value → Value → Value → Value → World → Prop) : Post := fun o t w => match o with | .normal => Kn (t 0) (t 4) (t 6) (t 8) (t 10) (t 11) w | .exit _ => (False) | .ret => False
def F44_5 (Kn : Value → Value → Value → Value → Value → Value → World → Prop) (x0 : Value) (x4 : Value) (x6 : Value) (x8 : Value) (x10 : Value) (x11 : Value) (x13 : Value) (x14 : Value) (w : World) : Prop :=
  rdP x0 fun p1 => rdA x4 fun a2 => rdA x6 fun a3 => rdA x8 fun a4 => rdC x10 fun l5a l5n l5c => rdI .i64 x11 fun n6 => rdB x13 fun b7 => rdP x14 fun p8 => ixS 1 l5a l5n n6 fun a9 => ldB a9 w fun b10 => br b10 (nn p8 fun a11 => stc (a11.add 6) (.int .i64 3) w fun w12 => F44_4 (fun y0_12 y4_12 y6_12 y8_12 y10_12 y11_12 w14 => ∀ _g15 : Tm, rdP y0_12 fun p16 => rdA y4_12 fun a17 => rdA y6_12 fun a18 => rdA y8_12 fun a19 => rdC y10_12 fun l20a l20n l20c => rdI .i64 y11_12 fun n21 => Kn (.pointer p16) (.pointer (some a17)) (.pointer (some a18)) (.pointer (some a19)) (.slice l20a l20n l20c) (.int .i64 n21) w14) (.pointer p1) (.pointer (some a2)) (.pointer (some a3)) (.pointer (some a4)) (.slice l5a l5n l5c) (.int .i64 n6) (.bool b7) (.pointer p8) w12) (F44_4 (fun y0_21 y4_21 y6_21 y8_21 y10_21 y11_21 w23 => ∀ _g24 : Tm, rdP y0_21 fun p25 => rdA y4_21 fun a26 => rdA y6_21 fun a27 => rdA y8_21 fun a28 => rdC y10_21 fun l29a l29n l29c => rdI .i64 y11_21 fun n30 => Kn (.pointer p25) (.pointer (some a26)) (.pointer (some a27)) (.pointer (some a28)) (.slice l29a l29n l29c) (.int .i64 n30) w23) (.pointer p1) (.pointer (some a2)) (.pointer (some a3)) (.pointer (some a4)) (.slice l5a l5n l5c) (.int .i64 n6) (.bool b7) (.pointer p8) w)
def F44_5O (Q : Post) (t : Tm) (w : World) : Prop := F44_5 (fun y0 y4 y6 y8 y10 y11 w => ∀ g, rsh [(0, (.one .ptr)), (4, (.one .adr)), (6, (.one .adr)), (8, (.one .adr)), (10, (.one .slc)), (11, (.one (.int .i64)))] (upds g [(0, y0), (4, y4), (6, y6), (8, y8), (10, y10), (11, y11)]) fun t => Q .normal t w) (t 0) (t 4) (t 6) (t 8) (t 10) (t 11) (t 13) (t 14) w
theorem F44_5_step (Kn : Value → Value → Value → Value → Value → Value → World → Prop) (t : Tm) (w : World) : (F44_5 Kn (t 0) (t 4) (t 6) (t 8) (t 10) (t 11) (t 13) (t 14) w) = rsh [(0, (.one .ptr)), (4, (.one .adr)), (6, (.one .adr)), (8, (.one .adr)), (10, (.one .slc)), (11, (.one (.int .i64))), (13, (.one .bool)), (14, (.one .ptr))] t (fun t => vc Try.prog (orcOf [([1, 1, 1, 1, 1, 1, 0, 0, 1, 0, 0, 1, 0, 1, 1, 1, 1, 1, 1, 1, 1], F44_1O), ([1, 1, 1, 1, 1, 0, 0, 1, 0, 0, 1, 0, 1, 1, 1, 1, 1, 1, 1, 1], F44_4O)]) [1, 1, 1, 1, 0, 0, 1, 0, 0, 1, 0, 1, 1, 1, 1, 1, 1, 1, 1] (getAt F44_code [1, 1, 1, 1, 0, 0, 1, 0, 0, 1, 0, 1, 1, 1, 1, 1, 1, 1, 1]) (F44_5C Kn) t w) := by kernel_rfl
theorem F44_5_ok : ∀ Q t w, F44_5O Q t w → W Try.prog Try.f44.ntmps (getAt F44_code [1, 1, 1, 1, 0, 0, 1, 0, 0, 1, 0, 1, 1, 1, 1, 1, 1, 1, 1]) Q t w := by
  intro Q t w h
  unfold F44_5O at h
  rw [F44_5_step] at h
  refine (vc_sound mixed (orcCons (π := [1, 1, 1, 1, 1, 1, 0, 0, 1, 0, 0, 1, 0, 1, 1, 1, 1, 1, 1, 1, 1]) F44_1_ok (orcCons (π := [1, 1, 1, 1, 1, 0, 0, 1, 0, 0, 1, 0, 1, 1, 1, 1, 1, 1, 1, 1]) F44_4_ok (orcNil F44_code))) _ _ rfl (okC_at F44_code_ok [1, 1, 1, 1, 0, 0, 1, 0, 0, 1, 0, 1, 1, 1, 1, 1, 1, 1, 1]) _ _ _ (rsh_out h)).mono ?_
  intro o t w q
  cases o with
  | normal => exact out_ok [0, 4, 6, 8, 10, 11] q
  | exit i => exact q.elim
  | ret => exact q.elim
def F44_6C (Kn : Value → Value → Value → Value → Value → Value → World → Prop) : Post := fun o t w => match o with | .normal => Kn (t 0) (t 4) (t 6) (t 8) (t 10) (t 15) w | .exit _ => (False) | .ret => False
def F44_6 (Kn : Value → Value → Value → Value → Value → Value → World → Prop) (x0 : Value) (x4 : Value) (x6 : Value) (x8 : Value) (x10 : Value) (x15 : Value) (x16 : Value) (w : World) : Prop :=
  rdP x0 fun p1 => rdA x4 fun a2 => rdA x6 fun a3 => rdA x8 fun a4 => rdC x10 fun l5a l5n l5c => rdI .i64 x15 fun n6 => rdP x16 fun p7 => nn p7 fun a8 => ldI .i64 (a8.add 4) w fun n9 => nn p7 fun a10 => stc (a10.add 4) (.int .i64 (IntKind.wrap .i64 (n9 + 1))) w fun w11 => nn p7 fun a12 => ldI .i64 (a12.add 4) w11 fun n13 => br (decide ((n13 : Int) ≥ 3)) (nn p7 fun a14 => ldB (a14.add 5) w11 fun b15 => F44_3 (fun y0_15 y4_15 y6_15 y8_15 y10_15 y15_15 w17 => ∀ _g18 : Tm, rdP y0_15 fun p19 => rdA y4_15 fun a20 => rdA y6_15 fun a21 => rdA y8_15 fun a22 => rdC y10_15 fun l23a l23n l23c => rdI .i64 y15_15 fun n24 => Kn (.pointer p19) (.pointer (some a20)) (.pointer (some a21)) (.pointer (some a22)) (.slice l23a l23n l23c) (.int .i64 n24) w17) (.pointer p1) (.pointer (some a2)) (.pointer (some a3)) (.pointer (some a4)) (.slice l5a l5n l5c) (.int .i64 n6) (.pointer p7) (.bool (!b15)) w11) (F44_3 (fun y0_24 y4_24 y6_24 y8_24 y10_24 y15_24 w26 => ∀ _g27 : Tm, rdP y0_24 fun p28 => rdA y4_24 fun a29 => rdA y6_24 fun a30 => rdA y8_24 fun a31 => rdC y10_24 fun l32a l32n l32c => rdI .i64 y15_24 fun n33 => Kn (.pointer p28) (.pointer (some a29)) (.pointer (some a30)) (.pointer (some a31)) (.slice l32a l32n l32c) (.int .i64 n33) w26) (.pointer p1) (.pointer (some a2)) (.pointer (some a3)) (.pointer (some a4)) (.slice l5a l5n l5c) (.int .i64 n6) (.pointer p7) (.bool false) w11)
def F44_6O (Q : Post) (t : Tm) (w : World) : Prop := F44_6 (fun y0 y4 y6 y8 y10 y15 w => ∀ g, rsh [(0, (.one .ptr)), (4, (.one .adr)), (6, (.one .adr)), (8, (.one .adr)), (10, (.one .slc)), (15, (.one (.int .i64)))] (upds g [(0, y0), (4, y4), (6, y6), (8, y8), (10, y10), (15, y15)]) fun t => Q .normal t w) (t 0) (t 4) (t 6) (t 8) (t 10) (t 15) (t 16) w
theorem F44_6_step (Kn : Value → Value → Value → Value → Value → Value → World → Prop) (t : Tm) (w : World) : (F44_6 Kn (t 0) (t 4) (t 6) (t 8) (t 10) (t 15) (t 16) w) = rsh [(0, (.one .ptr)), (4, (.one .adr)), (6, (.one .adr)), (8, (.one .adr)), (10, (.one .slc)), (15, (.one (.int .i64))), (16, (.one .ptr))] t (fun t => vc Try.prog (orcOf [([1, 1, 1, 1, 0, 0, 1, 0, 0, 1, 0, 1, 1, 1, 1, 1, 1, 1, 1, 1], F44_3O)]) [1, 1, 0, 0, 1, 0, 0, 1, 0, 1, 1, 1, 1, 1, 1, 1, 1, 1] (getAt F44_code [1, 1, 0, 0, 1, 0, 0, 1, 0, 1, 1, 1, 1, 1, 1, 1, 1, 1]) (F44_6C Kn) t w) := by kernel_rfl
theorem F44_6_ok : ∀ Q t w, F44_6O Q t w → W Try.prog Try.f44.ntmps (getAt F44_code [1, 1, 0, 0, 1, 0, 0, 1, 0, 1, 1, 1, 1, 1, 1, 1, 1, 1]) Q t w := by
  intro Q t w h
  unfold F44_6O at h
  rw [F44_6_step] at h
  refine (vc_sound mixed (orcCons (π := [1, 1, 1, 1, 0, 0, 1, 0, 0, 1, 0, 1, 1, 1, 1, 1, 1, 1, 1, 1]) F44_3_ok (orcNil F44_code)) _ _ rfl (okC_at F44_code_ok [1, 1, 0, 0, 1, 0, 0, 1, 0, 1, 1, 1, 1, 1, 1, 1, 1, 1]) _ _ _ (rsh_out h)).mono ?_
  intro o t w q
  cases o with
  | normal => exact out_ok [0, 4, 6, 8, 10, 15] q
  | exit i => exact q.elim
  | ret => exact q.elim
def F44_7C (Kn : Value → Value → Value → Value → Value → Value → World → Prop) : Post := fun o t w => match o with | .normal => Kn (t 0) (t 4) (t 6) (t 8) (t 10) (t 11) w | .exit _ => (False) | .ret => False
def F44_7 (Kn : Value → Value → Value → Value → Value → Value → World → Prop) (x0 : Value) (x4 : Value) (x6 : Value) (x8 : Value) (x10 : Value) (x11 : Value) (x12 : Value) (x13 : Value) (w : World) : Prop :=
  rdP x0 fun p1 => rdA x4 fun a2 => rdA x6 fun a3 => rdA x8 fun a4 => rdC x10 fun l5a l5n l5c => rdI .i64 x11 fun n6 => rdB x12 fun b7 => rdB x13 fun b8 => nn p1 fun a9 => ldC (a9.add 2) w fun l10a l10n _ => ixS 14 l10a l10n n6 fun a11 => br (!b7) (ldI .i64 (a11.add 6) w fun n12 => F44_2 (fun y0_12 y4_12 y6_12 y8_12 y10_12 y11_12 y13_12 y14_12 w14 => ∀ _g15 : Tm, rdP y0_12 fun p16 => rdA y4_12 fun a17 => rdA y6_12 fun a18 => rdA y8_12 fun a19 => rdC y10_12 fun l20a l20n l20c => rdI .i64 y11_12 fun n21 => rdB y13_12 fun b22 => rdP y14_12 fun p23 => F44_5 (fun y0_23 y4_23 y6_23 y8_23 y10_23 y11_23 w25 => ∀ _g26 : Tm, rdP y0_23 fun p27 => rdA y4_23 fun a28 => rdA y6_23 fun a29 => rdA y8_23 fun a30 => rdC y10_23 fun l31a l31n l31c => rdI .i64 y11_23 fun n32 => Kn (.pointer p27) (.pointer (some a28)) (.pointer (some a29)) (.pointer (some a30)) (.slice l31a l31n l31c) (.int .i64 n32) w25) (.pointer p16) (.pointer (some a17)) (.pointer (some a18)) (.pointer (some a19)) (.slice l20a l20n l20c) (.int .i64 n21) (.bool b22) (.pointer p23) w14) (.pointer p1) (.pointer (some a2)) (.pointer (some a3)) (.pointer (some a4)) (.slice l5a l5n l5c) (.int .i64 n6) (.bool b8) (.pointer (some a11)) (.bool (n12 == 3)) w) (F44_2 (fun y0_32 y4_32 y6_32 y8_32 y10_32 y11_32 y13_32 y14_32 w34 => ∀ _g35 : Tm, rdP y0_32 fun p36 => rdA y4_32 fun a37 => rdA y6_32 fun a38 => rdA y8_32 fun a39 => rdC y10_32 fun l40a l40n l40c => rdI .i64 y11_32 fun n41 => rdB y13_32 fun b42 => rdP y14_32 fun p43 => F44_5 (fun y0_43 y4_43 y6_43 y8_43 y10_43 y11_43 w45 => ∀ _g46 : Tm, rdP y0_43 fun p47 => rdA y4_43 fun a48 => rdA y6_43 fun a49 => rdA y8_43 fun a50 => rdC y10_43 fun l51a l51n l51c => rdI .i64 y11_43 fun n52 => Kn (.pointer p47) (.pointer (some a48)) (.pointer (some a49)) (.pointer (some a50)) (.slice l51a l51n l51c) (.int .i64 n52) w45) (.pointer p36) (.pointer (some a37)) (.pointer (some a38)) (.pointer (some a39)) (.slice l40a l40n l40c) (.int .i64 n41) (.bool b42) (.pointer p43) w34) (.pointer p1) (.pointer (some a2)) (.pointer (some a3)) (.pointer (some a4)) (.slice l5a l5n l5c) (.int .i64 n6) (.bool b8) (.pointer (some a11)) (.bool false) w)
def F44_7O (Q : Post) (t : Tm) (w : World) : Prop := F44_7 (fun y0 y4 y6 y8 y10 y11 w => ∀ g, rsh [(0, (.one .ptr)), (4, (.one .adr)), (6, (.one .adr)), (8, (.one .adr)), (10, (.one .slc)), (11, (.one (.int .i64)))] (upds g [(0, y0), (4, y4), (6, y6), (8, y8), (10, y10), (11, y11)]) fun t => Q .normal t w) (t 0) (t 4) (t 6) (t 8) (t 10) (t 11) (t 12) (t 13) w
theorem F44_7_step (Kn : Value → Value → Value → Value → Value → Value → World → Prop) (t : Tm) (w : World) : (F44_7 Kn (t 0) (t 4) (t 6) (t 8) (t 10) (t 11) (t 12) (t 13) w) = rsh [(0, (.one .ptr)), (4, (.one .adr)), (6, (.one .adr)), (8, (.one .adr)), (10, (.one .slc)), (11, (.one (.int .i64))), (12, (.one .bool)), (13, (.one .bool))] t (fun t => vc Try.prog (orcOf [([1, 1, 1, 1, 1, 1, 0, 0, 1, 0, 0, 1, 0, 1, 1, 1, 1, 1, 1, 1, 1], F44_1O), ([1, 0, 1, 1, 1, 0, 0, 1, 0, 0, 1, 0, 1, 1, 1, 1, 1, 1, 1, 1], F44_2O), ([1, 1, 1, 1, 1, 0, 0, 1, 0, 0, 1, 0, 1, 1, 1, 1, 1, 1, 1, 1], F44_4O), ([1, 1, 1, 1, 0, 0, 1, 0, 0, 1, 0, 1, 1, 1, 1, 1, 1, 1, 1], F44_5O)]) [1, 1, 0, 0, 1, 0, 0, 1, 0, 1, 1, 1, 1, 1, 1, 1, 1] (getAt F44_code [1, 1, 0, 0, 1, 0, 0, 1, 0, 1, 1, 1, 1, 1, 1, 1, 1]) (F44_7C Kn) t w) := by kernel_rfl
theorem F44_7_ok : ∀ Q t w, F44_7O Q t w → W Try.prog Try.f44.ntmps (getAt F44_code [1, 1, 0, 0, 1, 0, 0, 1, 0, 1, 1, 1, 1, 1, 1, 1, 1]) Q t w := by
  intro Q t w h
  unfold F44_7O at h
  rw [F44_7_step] at h
  refine (vc_sound mixed (orcCons (π := [1, 1, 1, 1, 1, 1, 0, 0, 1, 0, 0, 1, 0, 1, 1, 1, 1, 1, 1, 1, 1]) F44_1_ok (orcCons (π := [1, 0, 1, 1, 1, 0, 0, 1, 0, 0, 1, 0, 1, 1, 1, 1, 1, 1, 1, 1]) F44_2_ok (orcCons (π := [1, 1, 1, 1, 1, 0, 0, 1, 0, 0, 1, 0, 1, 1, 1, 1, 1, 1, 1, 1]) F44_4_ok (orcCons (π := [1, 1, 1, 1, 0, 0, 1, 0, 0, 1, 0, 1, 1, 1, 1, 1, 1, 1, 1]) F44_5_ok (orcNil F44_code))))) _ _ rfl (okC_at F44_code_ok [1, 1, 0, 0, 1, 0, 0, 1, 0, 1, 1, 1, 1, 1, 1, 1, 1]) _ _ _ (rsh_out h)).mono ?_
  intro o t w q
  cases o with
  | normal => exact out_ok [0, 4, 6, 8, 10, 11] q
  | exit i => exact q.elim
  | ret => exact q.elim
def F44_8C (K4 : Value → Value → Value → Value → World → Prop) : Post := fun o t w => match o with | .normal => False | .exit i => (match Nat.beq i 4 with | true => K4 (t 0) (t 4) (t 6) (t 8) w | false => False) | .ret => False
def F44_8B (R : Value → Value → Value → Value → Value → Value → World → Prop) (K4 : Value → Value → Value → Value → World → Prop) (x0 : Value) (x4 : Value) (x6 : Value) (x8 : Value) (x10 : Value) (x15 : Value) (w : World) : Prop :=
  rdP x0 fun p1 => rdA x4 fun a2 => rdA x6 fun a3 => rdA x8 fun a4 => rdC x10 fun l5a l5n l5c => rdI .i64 x15 fun n6 => nn p1 fun a7 => ldC (a7.add 2) w fun _ l8n _ => br (decide ((n6 : Int) < (l8n : Int))) (nn p1 fun a9 => ldC (a9.add 2) w fun l10a l10n _ => ixS 14 l10a l10n n6 fun a11 => ldI .i64 (a11.add 6) w fun n12 => br (n12 != 1) (R (.pointer p1) (.pointer (some a2)) (.pointer (some a3)) (.pointer (some a4)) (.slice l5a l5n l5c) (.int .i64 (IntKind.wrap .i64 (n6 + 1))) w) (Calls Try.prog 75 #[(.pointer p1), (.slice l5a l5n l5c), (.int .i64 n6)] w fun e14 w13 => ∃ b15, e14 = .returned (.bool b15) ∧ (br (!b15) (R (.pointer p1) (.pointer (some a2)) (.pointer (some a3)) (.pointer (some a4)) (.slice l5a l5n l5c) (.int .i64 (IntKind.wrap .i64 (n6 + 1))) w13) (F44_6 (fun y0_15 y4_15 y6_15 y8_15 y10_15 y15_15 w17 => ∀ _g18 : Tm, rdP y0_15 fun p19 => rdA y4_15 fun a20 => rdA y6_15 fun a21 => rdA y8_15 fun a22 => rdC y10_15 fun l23a l23n l23c => rdI .i64 y15_15 fun n24 => R (.pointer p19) (.pointer (some a20)) (.pointer (some a21)) (.pointer (some a22)) (.slice l23a l23n l23c) (.int .i64 (IntKind.wrap .i64 (n24 + 1))) w17) (.pointer p1) (.pointer (some a2)) (.pointer (some a3)) (.pointer (some a4)) (.slice l5a l5n l5c) (.int .i64 n6) (.pointer (some a11)) w13)))) (K4 (.pointer p1) (.pointer (some a2)) (.pointer (some a3)) (.pointer (some a4)) w)
def F44_8 (K4 : Value → Value → Value → Value → World → Prop) : Nat → Value → Value → Value → Value → Value → Value → World → Prop
  | 0 => fun _ _ _ _ _ _ _ => False
  | n + 1 => F44_8B (F44_8 K4 n) K4
def F44_8O (Q : Post) (t : Tm) (w : World) : Prop := ∃ n, F44_8 (fun y0 y4 y6 y8 w => ∀ g, rsh [(0, (.one .ptr)), (4, (.one .adr)), (6, (.one .adr)), (8, (.one .adr))] (upds g [(0, y0), (4, y4), (6, y6), (8, y8)]) fun t => Q (.exit 4) t w) n (t 0) (t 4) (t 6) (t 8) (t 10) (t 15) w
theorem F44_8_step (K4 : Value → Value → Value → Value → World → Prop) (n : Nat) (t : Tm) (w : World) : (F44_8 K4 (n + 1) (t 0) (t 4) (t 6) (t 8) (t 10) (t 15) w) = rsh [(0, (.one .ptr)), (4, (.one .adr)), (6, (.one .adr)), (8, (.one .adr)), (10, (.one .slc)), (15, (.one (.int .i64)))] t (fun t => vc Try.prog (orcOf [([1, 1, 1, 1, 0, 0, 1, 0, 0, 1, 0, 1, 1, 1, 1, 1, 1, 1, 1, 1], F44_3O), ([1, 1, 0, 0, 1, 0, 0, 1, 0, 1, 1, 1, 1, 1, 1, 1, 1, 1], F44_6O)]) [0, 0, 1, 0, 1, 1, 1, 1, 1, 1, 1, 1, 1] (getAt F44_code [0, 0, 1, 0, 1, 1, 1, 1, 1, 1, 1, 1, 1]) (fun o t w => match o with | .normal => F44_8 K4 n (t 0) (t 4) (t 6) (t 8) (t 10) (t 15) w | .exit i => F44_8C K4 (.exit i) t w | .ret => F44_8C K4 .ret t w) t w) := by kernel_rfl
theorem F44_8_ok : ∀ Q t w, F44_8O Q t w → W Try.prog Try.f44.ntmps (getAt F44_code [0, 1, 0, 1, 1, 1, 1, 1, 1, 1, 1, 1]) Q t w := by
  intro Q t w ⟨n, h⟩
  refine (W_loop (P := Try.prog) (b := getAt F44_code [0, 0, 1, 0, 1, 1, 1, 1, 1, 1, 1, 1, 1]) (Q := F44_8C (fun y0 y4 y6 y8 w => ∀ g, rsh [(0, (.one .ptr)), (4, (.one .adr)), (6, (.one .adr)), (8, (.one .adr))] (upds g [(0, y0), (4, y4), (6, y6), (8, y8)]) fun t => Q (.exit 4) t w)) (G := fun n t w => F44_8 (fun y0 y4 y6 y8 w => ∀ g, rsh [(0, (.one .ptr)), (4, (.one .adr)), (6, (.one .adr)), (8, (.one .adr))] (upds g [(0, y0), (4, y4), (6, y6), (8, y8)]) fun t => Q (.exit 4) t w) n (t 0) (t 4) (t 6) (t 8) (t 10) (t 15) w) (fun _ _ h => h) (fun n t w h => ?_) n t w h).mono ?_
  · rw [F44_8_step] at h
    exact vc_sound mixed (orcCons (π := [1, 1, 1, 1, 0, 0, 1, 0, 0, 1, 0, 1, 1, 1, 1, 1, 1, 1, 1, 1]) F44_3_ok (orcCons (π := [1, 1, 0, 0, 1, 0, 0, 1, 0, 1, 1, 1, 1, 1, 1, 1, 1, 1]) F44_6_ok (orcNil F44_code))) _ _ rfl (okC_at F44_code_ok [0, 0, 1, 0, 1, 1, 1, 1, 1, 1, 1, 1, 1]) _ _ _ (rsh_out h)
  · intro o t w q
    cases o with
    | normal => exact q.elim
    | exit i =>
      unfold F44_8C at q
      simp only at q
      split at q
      · rename_i hi
        rw [nbeq] at hi
        subst hi
        exact out_ok [0, 4, 6, 8] q
      · exact q.elim
    | ret => exact q.elim
def F44_9C (K2 : Value → Value → Value → Value → Value → World → Prop) : Post := fun o t w => match o with | .normal => False | .exit i => (match Nat.beq i 2 with | true => K2 (t 0) (t 4) (t 6) (t 8) (t 10) w | false => False) | .ret => False
def F44_9B (R : Value → Value → Value → Value → Value → Value → World → Prop) (K2 : Value → Value → Value → Value → Value → World → Prop) (x0 : Value) (x4 : Value) (x6 : Value) (x8 : Value) (x10 : Value) (x11 : Value) (w : World) : Prop :=
  rdP x0 fun p1 => rdA x4 fun a2 => rdA x6 fun a3 => rdA x8 fun a4 => rdC x10 fun l5a l5n l5c => rdI .i64 x11 fun n6 => nn p1 fun a7 => ldC (a7.add 2) w fun _ l8n _ => br (decide ((n6 : Int) < (l8n : Int))) (drw w fun w9 => ldR30 a2 w9 fun s10 => nn p1 fun a11 => ldC (a11.add 2) w9 fun l12a l12n _ => ixS 14 l12a l12n n6 fun a13 => ldR57 a13 w9 fun s14 => Calls Try.prog 72 #[s10.v, s14.v] w9 fun e16 w15 => ∃ b17, ∃ b18, e16 = .returned (.tuple #[(.bool b17), (.bool b18)]) ∧ (br b17 (nn p1 fun a19 => ldC (a19.add 2) w15 fun l20a l20n _ => ixS 14 l20a l20n n6 fun a21 => ldR57 a21 w15 fun s22 => Calls Try.prog 73 #[s22.v] w15 fun e24 w23 => ∃ b25, e24 = .returned (.bool b25) ∧ (ixS 1 l5a l5n n6 fun a26 => stc a26 (.bool b25) w23 fun w27 => F44_7 (fun y0_27 y4_27 y6_27 y8_27 y10_27 y11_27 w29 => ∀ _g30 : Tm, rdP y0_27 fun p31 => rdA y4_27 fun a32 => rdA y6_27 fun a33 => rdA y8_27 fun a34 => rdC y10_27 fun l35a l35n l35c => rdI .i64 y11_27 fun n36 => R (.pointer p31) (.pointer (some a32)) (.pointer (some a33)) (.pointer (some a34)) (.slice l35a l35n l35c) (.int .i64 (IntKind.wrap .i64 (n36 + 1))) w29) (.pointer p1) (.pointer (some a2)) (.pointer (some a3)) (.pointer (some a4)) (.slice l5a l5n l5c) (.int .i64 n6) (.bool b17) (.bool b18) w27)) (ixS 1 l5a l5n n6 fun a37 => stc a37 (.bool false) w15 fun w38 => F44_7 (fun y0_38 y4_38 y6_38 y8_38 y10_38 y11_38 w40 => ∀ _g41 : Tm, rdP y0_38 fun p42 => rdA y4_38 fun a43 => rdA y6_38 fun a44 => rdA y8_38 fun a45 => rdC y10_38 fun l46a l46n l46c => rdI .i64 y11_38 fun n47 => R (.pointer p42) (.pointer (some a43)) (.pointer (some a44)) (.pointer (some a45)) (.slice l46a l46n l46c) (.int .i64 (IntKind.wrap .i64 (n47 + 1))) w40) (.pointer p1) (.pointer (some a2)) (.pointer (some a3)) (.pointer (some a4)) (.slice l5a l5n l5c) (.int .i64 n6) (.bool b17) (.bool b18) w38))) (K2 (.pointer p1) (.pointer (some a2)) (.pointer (some a3)) (.pointer (some a4)) (.slice l5a l5n l5c) w)
def F44_9 (K2 : Value → Value → Value → Value → Value → World → Prop) : Nat → Value → Value → Value → Value → Value → Value → World → Prop
  | 0 => fun _ _ _ _ _ _ _ => False
  | n + 1 => F44_9B (F44_9 K2 n) K2
def F44_9O (Q : Post) (t : Tm) (w : World) : Prop := ∃ n, F44_9 (fun y0 y4 y6 y8 y10 w => ∀ g, rsh [(0, (.one .ptr)), (4, (.one .adr)), (6, (.one .adr)), (8, (.one .adr)), (10, (.one .slc))] (upds g [(0, y0), (4, y4), (6, y6), (8, y8), (10, y10)]) fun t => Q (.exit 2) t w) n (t 0) (t 4) (t 6) (t 8) (t 10) (t 11) w
theorem F44_9_step (K2 : Value → Value → Value → Value → Value → World → Prop) (n : Nat) (t : Tm) (w : World) : (F44_9 K2 (n + 1) (t 0) (t 4) (t 6) (t 8) (t 10) (t 11) w) = rsh [(0, (.one .ptr)), (4, (.one .adr)), (6, (.one .adr)), (8, (.one .adr)), (10, (.one .slc)), (11, (.one (.int .i64)))] t (fun t => vc Try.prog (orcOf [([1, 1, 1, 1, 1, 1, 0, 0, 1, 0, 0, 1, 0, 1, 1, 1, 1, 1, 1, 1, 1], F44_1O), ([1, 0, 1, 1, 1, 0, 0, 1, 0, 0, 1, 0, 1, 1, 1, 1, 1, 1, 1, 1], F44_2O), ([1, 1, 1, 1, 1, 0, 0, 1, 0, 0, 1, 0, 1, 1, 1, 1, 1, 1, 1, 1], F44_4O), ([1, 1, 1, 1, 0, 0, 1, 0, 0, 1, 0, 1, 1, 1, 1, 1, 1, 1, 1], F44_5O), ([1, 1, 0, 0, 1, 0, 0, 1, 0, 1, 1, 1, 1, 1, 1, 1, 1], F44_7O)]) [0, 0, 1, 0, 1, 1, 1, 1, 1, 1, 1, 1] (getAt F44_code [0, 0, 1, 0, 1, 1, 1, 1, 1, 1, 1, 1]) (fun o t w => match o with | .normal => F44_9 K2 n (t 0) (t 4) (t 6) (t 8) (t 10) (t 11) w | .exit i => F44_9C K2 (.exit i) t w | .ret => F44_9C K2 .ret t w) t w) := by kernel_rfl
theorem F44_9_ok : ∀ Q t w, F44_9O Q t w → W Try.prog Try.f44.ntmps (getAt F44_code [0, 1, 0, 1, 1, 1, 1, 1, 1, 1, 1]) Q t w := by
  intro Q t w ⟨n, h⟩
  refine (W_loop (P := Try.prog) (b := getAt F44_code [0, 0, 1, 0, 1, 1, 1, 1, 1, 1, 1, 1]) (Q := F44_9C (fun y0 y4 y6 y8 y10 w => ∀ g, rsh [(0, (.one .ptr)), (4, (.one .adr)), (6, (.one .adr)), (8, (.one .adr)), (10, (.one .slc))] (upds g [(0, y0), (4, y4), (6, y6), (8, y8), (10, y10)]) fun t => Q (.exit 2) t w)) (G := fun n t w => F44_9 (fun y0 y4 y6 y8 y10 w => ∀ g, rsh [(0, (.one .ptr)), (4, (.one .adr)), (6, (.one .adr)), (8, (.one .adr)), (10, (.one .slc))] (upds g [(0, y0), (4, y4), (6, y6), (8, y8), (10, y10)]) fun t => Q (.exit 2) t w) n (t 0) (t 4) (t 6) (t 8) (t 10) (t 11) w) (fun _ _ h => h) (fun n t w h => ?_) n t w h).mono ?_
  · rw [F44_9_step] at h
    exact vc_sound mixed (orcCons (π := [1, 1, 1, 1, 1, 1, 0, 0, 1, 0, 0, 1, 0, 1, 1, 1, 1, 1, 1, 1, 1]) F44_1_ok (orcCons (π := [1, 0, 1, 1, 1, 0, 0, 1, 0, 0, 1, 0, 1, 1, 1, 1, 1, 1, 1, 1]) F44_2_ok (orcCons (π := [1, 1, 1, 1, 1, 0, 0, 1, 0, 0, 1, 0, 1, 1, 1, 1, 1, 1, 1, 1]) F44_4_ok (orcCons (π := [1, 1, 1, 1, 0, 0, 1, 0, 0, 1, 0, 1, 1, 1, 1, 1, 1, 1, 1]) F44_5_ok (orcCons (π := [1, 1, 0, 0, 1, 0, 0, 1, 0, 1, 1, 1, 1, 1, 1, 1, 1]) F44_7_ok (orcNil F44_code)))))) _ _ rfl (okC_at F44_code_ok [0, 0, 1, 0, 1, 1, 1, 1, 1, 1, 1, 1]) _ _ _ (rsh_out h)
  · intro o t w q
    cases o with
    | normal => exact q.elim
    | exit i =>
      unfold F44_9C at q
      simp only at q
      split at q
      · rename_i hi
        rw [nbeq] at hi
        subst hi
        exact out_ok [0, 4, 6, 8, 10] q
      · exact q.elim
    | ret => exact q.elim
def F44_10C (K0 : Value → Value → Value → Value → World → Prop) : Post := fun o t w => match o with | .normal => False | .exit i => (match Nat.beq i 0 with | true => K0 (t 0) (t 4) (t 6) (t 8) w | false => False) | .ret => False
def F44_10B (R : Value → Value → Value → Value → Value → Value → World → Prop) (K0 : Value → Value → Value → Value → World → Prop) (x0 : Value) (x2 : Value) (x4 : Value) (x6 : Value) (x8 : Value) (x9 : Value) (w : World) : Prop :=
  rdP x0 fun p1 => rdI .i64 x2 fun n2 => rdA x4 fun a3 => rdA x6 fun a4 => rdA x8 fun a5 => rdI .i64 x9 fun n6 => nn p1 fun a7 => ldI .i64 (a7.add 0) w fun n8 => br (decide ((n6 : Int) < n8)) (drw w fun w9 => ∃ w10 : World, Pres w10 w9 ∧ (ldC (a5.add 0) w10 fun l11a l11n l11c => ldR30 a3 w9 fun s12 => Calls Try.prog 71 #[(.pointer p1), s12.v, (.int .i64 n6), (.int .i64 n2)] w9 fun e14 w13 => exR52 fun s15 => e14 = .returned s15.v ∧ (Pres w10 w13 ∧ (alc (.cells s15.c 53) w13 fun b16 w17 => Pres w10 w17 ∧ (∃ l18a l18n l18c w19, Sem.run Try.prog (Builtin.append_ #[46, 46] 46 #[(.slice l11a l11n l11c), (.slice (some (Addr.mk b16 0 none)) 1 1)]) w17 = .ok (.slice l18a l18n l18c) w19 ∧ (stc (a5.add 0) (.slice l18a l18n l18c) w19 fun w20 => R (.pointer p1) (.int .i64 n2) (.pointer (some a3)) (.pointer (some a4)) (.pointer (some a5)) (.int .i64 (IntKind.wrap .i64 (n6 + 1))) w20)))))) (K0 (.pointer p1) (.pointer (some a3)) (.pointer (some a4)) (.pointer (some a5)) w)
def F44_10 (K0 : Value → Value → Value → Value → World → Prop) : Nat → Value → Value → Value → Value → Value → Value → World → Prop
  | 0 => fun _ _ _ _ _ _ _ => False
  | n + 1 => F44_10B (F44_10 K0 n) K0
def F44_10O (Q : Post) (t : Tm) (w : World) : Prop := ∃ n, F44_10 (fun y0 y4 y6 y8 w => ∀ g, rsh [(0, (.one .ptr)), (4, (.one .adr)), (6, (.one .adr)), (8, (.one .adr))] (upds g [(0, y0), (4, y4), (6, y6), (8, y8)]) fun t => Q (.exit 0) t w) n (t 0) (t 2) (t 4) (t 6) (t 8) (t 9) w
theorem F44_10_step (K0 : Value → Value → Value → Value → World → Prop) (n : Nat) (t : Tm) (w : World) : (F44_10 K0 (n + 1) (t 0) (t 2) (t 4) (t 6) (t 8) (t 9) w) = rsh [(0, (.one .ptr)), (2, (.one (.int .i64))), (4, (.one .adr)), (6, (.one .adr)), (8, (.one .adr)), (9, (.one (.int .i64)))] t (fun t => vc Try.prog (orcOf []) [0, 0, 1, 0, 1, 1, 1, 1, 1, 1] (getAt F44_code [0, 0, 1, 0, 1, 1, 1, 1, 1, 1]) (fun o t w => match o with | .normal => F44_10 K0 n (t 0) (t 2) (t 4) (t 6) (t 8) (t 9) w | .exit i => F44_10C K0 (.exit i) t w | .ret => F44_10C K0 .ret t w) t w) := by kernel_rfl
theorem F44_10_ok : ∀ Q t w, F44_10O Q t w → W Try.prog Try.f44.ntmps (getAt F44_code [0, 1, 0, 1, 1, 1, 1, 1, 1]) Q t w := by
  intro Q t w ⟨n, h⟩
  refine (W_loop (P := Try.prog) (b := getAt F44_code [0, 0, 1, 0, 1, 1, 1, 1, 1, 1]) (Q := F44_10C (fun y0 y4 y6 y8 w => ∀ g, rsh [(0, (.one .ptr)), (4, (.one .adr)), (6, (.one .adr)), (8, (.one .adr))] (upds g [(0, y0), (4, y4), (6, y6), (8, y8)]) fun t => Q (.exit 0) t w)) (G := fun n t w => F44_10 (fun y0 y4 y6 y8 w => ∀ g, rsh [(0, (.one .ptr)), (4, (.one .adr)), (6, (.one .adr)), (8, (.one .adr))] (upds g [(0, y0), (4, y4), (6, y6), (8, y8)]) fun t => Q (.exit 0) t w) n (t 0) (t 2) (t 4) (t 6) (t 8) (t 9) w) (fun _ _ h => h) (fun n t w h => ?_) n t w h).mono ?_
  · rw [F44_10_step] at h
    exact vc_sound mixed (orcNil F44_code) _ _ rfl (okC_at F44_code_ok [0, 0, 1, 0, 1, 1, 1, 1, 1, 1]) _ _ _ (rsh_out h)
  · intro o t w q
    cases o with
    | normal => exact q.elim
    | exit i =>
      unfold F44_10C at q
      simp only at q
      split at q
      · rename_i hi
        rw [nbeq] at hi
        subst hi
        exact out_ok [0, 4, 6, 8] q
      · exact q.elim
    | ret => exact q.elim
def F44_11C (Kr : Value → Value → World → Prop) : Post := fun o t w => match o with | .normal => False | .exit _ => (False) | .ret => Kr (t 6) (t 7) w
def F44_11 (Kr : Value → Value → World → Prop) (x0 : Value) (x2 : Value) (x4 : Value) (x6 : Value) (w : World) : Prop :=
  rdP x0 fun p1 => rdI .i64 x2 fun n2 => rdA x4 fun a3 => rdA x6 fun a4 => alc (.cells ((R47.mk none 0 0 0 0)).c 48) w fun b5 w6 => stcL (Addr.mk b5 0 none) 0 (R47.mk none 0 0 0 0).l w6 fun w7 => ∃ k57 : Nat, F44_10 (fun y0_7 y4_7 y6_7 y8_7 w9 => ∀ _g10 : Tm, rdP y0_7 fun p11 => rdA y4_7 fun a12 => rdA y6_7 fun a13 => rdA y8_7 fun a14 => nn p11 fun a15 => ldC (a15.add 2) w9 fun _ l16n _ => ∃ l17a l17n l17c, ∃ w18, Sem.run Try.prog (Instr.makeSlice 24 (.int .i64 (l16n : Int)) (.int .i64 (l16n : Int))) w9 = .ok (.slice l17a l17n l17c) w18 ∧ (∃ k56 : Nat, F44_9 (fun y0_18 y4_18 y6_18 y8_18 y10_18 w20 => ∀ _g21 : Tm, rdP y0_18 fun p22 => rdA y4_18 fun a23 => rdA y6_18 fun a24 => rdA y8_18 fun a25 => rdC y10_18 fun l26a l26n l26c => ∃ k55 : Nat, F44_8 (fun y0_26 y4_26 y6_26 y8_26 w28 => ∀ _g29 : Tm, rdP y0_26 fun p30 => rdA y4_26 fun a31 => rdA y6_26 fun a32 => rdA y8_26 fun a33 => drw w28 fun w34 => nn p30 fun a35 => ldI .u32 (a35.add 1) w34 fun n36 => ldI .u32 (a31.add 2) w34 fun n37 => Calls Try.prog 76 #[(.int .u32 n36), (.int .u32 n37)] w34 fun e39 w38 => ∃ n40, e39 = .returned (.int .i64 n40) ∧ (∃ l41a l41n l41c, ∃ w42, Sem.run Try.prog (Instr.buildSlice 54 0 #[]) w38 = .ok (.slice l41a l41n l41c) w42 ∧ (nn p30 fun a43 => ldC (a43.add 2) w42 fun l44a l44n l44c => slS 14 l44a l44n l44c (some (.int .i64 n40)) none fun l45a l45n l45c => ∃ l46a l46n l46c w47, Sem.run Try.prog (Builtin.append_ #[54, 54] 54 #[(.slice l41a l41n l41c), (.slice l45a l45n l45c)]) w42 = .ok (.slice l46a l46n l46c) w47 ∧ (nn p30 fun a48 => stc (a48.add 2) (.slice l46a l46n l46c) w47 fun w49 => ldI .u32 (a31.add 2) w49 fun n50 => nn p30 fun a51 => stc (a51.add 1) (.int .u32 n50) w49 fun w52 => ldR47 a33 w52 fun s53 => stcL a32 0 s53.l w52 fun w54 => Kr (.pointer (some a32)) (.int .i64 0) w54)))) k55 (.pointer p22) (.pointer (some a23)) (.pointer (some a24)) (.pointer (some a25)) (.slice l26a l26n l26c) (.int .i64 0) w20) k56 (.pointer p11) (.pointer (some a12)) (.pointer (some a13)) (.pointer (some a14)) (.slice l17a l17n l17c) (.int .i64 0) w18)) k57 (.pointer p1) (.int .i64 n2) (.pointer (some a3)) (.pointer (some a4)) (.pointer (some (Addr.mk b5 0 none))) (.int .i64 0) w7
def F44_11O (Q : Post) (t : Tm) (w : World) : Prop := F44_11 (fun y6 y7 w => ∀ g, rsh [(6, (.one .adr)), (7, (.one (.int .i64)))] (upds g [(6, y6), (7, y7)]) fun t => Q .ret t w) (t 0) (t 2) (t 4) (t 6) w
theorem F44_11_step (Kr : Value → Value → World → Prop) (t : Tm) (w : World) : (F44_11 Kr (t 0) (t 2) (t 4) (t 6) w) = rsh [(0, (.one .ptr)), (2, (.one (.int .i64))), (4, (.one .adr)), (6, (.one .adr))] t (fun t => vc Try.prog (orcOf [([1, 1, 1, 1, 1, 1, 0, 0, 1, 0, 0, 1, 0, 1, 1, 1, 1, 1, 1, 1, 1], F44_1O), ([1, 0, 1, 1, 1, 0, 0, 1, 0, 0, 1, 0, 1, 1, 1, 1, 1, 1, 1, 1], F44_2O), ([1, 1, 1, 1, 0, 0, 1, 0, 0, 1, 0, 1, 1, 1, 1, 1, 1, 1, 1, 1], F44_3O), ([1, 1, 1, 1, 1, 0, 0, 1, 0, 0, 1, 0, 1, 1, 1, 1, 1, 1, 1, 1], F44_4O), ([1, 1, 1, 1, 0, 0, 1, 0, 0, 1, 0, 1, 1, 1, 1, 1, 1, 1, 1], F44_5O), ([1, 1, 0, 0, 1, 0, 0, 1, 0, 1, 1, 1, 1, 1, 1, 1, 1, 1], F44_6O), ([1, 1, 0, 0, 1, 0, 0, 1, 0, 1, 1, 1, 1, 1, 1, 1, 1], F44_7O), ([0, 1, 0, 1, 1, 1, 1, 1, 1, 1, 1, 1], F44_8O), ([0, 1, 0, 1, 1, 1, 1, 1, 1, 1, 1], F44_9O), ([0, 1, 0, 1, 1, 1, 1, 1, 1], F44_10O)]) [1, 1, 1, 1, 1] (getAt F44_code [1, 1, 1, 1, 1]) (F44_11C Kr) t w) := by kernel_rfl
theorem F44_11_ok : ∀ Q t w, F44_11O Q t w → W Try.prog Try.f44.ntmps (getAt F44_code [1, 1, 1, 1, 1]) Q t w := by
  intro Q t w h
  unfold F44_11O at h
  rw [F44_11_step] at h
  refine (vc_sound mixed (orcCons (π := [1, 1, 1, 1, 1, 1, 0, 0, 1, 0, 0, 1, 0, 1, 1, 1, 1, 1, 1, 1, 1]) F44_1_ok (orcCons (π := [1, 0, 1, 1, 1, 0, 0, 1, 0, 0, 1, 0, 1, 1, 1, 1, 1, 1, 1, 1]) F44_2_ok (orcCons (π := [1, 1, 1, 1, 0, 0, 1, 0, 0, 1, 0, 1, 1, 1, 1, 1, 1, 1, 1, 1]) F44_3_ok (orcCons (π := [1, 1, 1, 1, 1, 0, 0, 1, 0, 0, 1, 0, 1, 1, 1, 1, 1, 1, 1, 1]) F44_4_ok (orcCons (π := [1, 1, 1, 1, 0, 0, 1, 0, 0, 1, 0, 1, 1, 1, 1, 1, 1, 1, 1]) F44_5_ok (orcCons (π := [1, 1, 0, 0, 1, 0, 0, 1, 0, 1, 1, 1, 1, 1, 1, 1, 1, 1]) F44_6_ok (orcCons (π := [1, 1, 0, 0, 1, 0, 0, 1, 0, 1, 1, 1, 1, 1, 1, 1, 1]) F44_7_ok (orcCons (π := [0, 1, 0, 1, 1, 1, 1, 1, 1, 1, 1, 1]) F44_8_ok (orcCons (π := [0, 1, 0, 1, 1, 1, 1, 1, 1, 1, 1]) F44_9_ok (orcCons (π := [0, 1, 0, 1, 1, 1, 1, 1, 1]) F44_10_ok (orcNil F44_code))))))))))) _ _ rfl (okC_at F44_code_ok [1, 1, 1, 1, 1]) _ _ _ (rsh_out h)).mono ?_
  intro o t w q
  cases o with
  | normal => exact q.elim
  | exit i => exact q.elim
  | ret => exact out_ok [6, 7] q
def F44_12C (Kr : Value → Value → World → Prop) : Post := fun o t w => match o with | .normal => False | .exit _ => (False) | .ret => Kr (t 6) (t 7) w
def F44_12 (Kr : Value → Value → World → Prop) (x0 : Value) (x2 : Value) (x4 : Value) (x6 : Value) (w : World) : Prop :=
  rdP x0 fun p1 => rdI .i64 x2 fun n2 => rdA x4 fun a3 => rdA x6 fun a4 => Calls Try.prog 66 #[(.int .i64 n2)] w fun e6 w5 => ∃ b7, e6 = .returned (.bool b7) ∧ (br (!b7) (stcL a4 0 (R47.mk none 0 0 0 0).l w5 fun w8 => Kr (.pointer (some a4)) (.int .i64 1) w8) (drw w5 fun w9 => ldI .u32 (a3.add 2) w9 fun n10 => nn p1 fun a11 => ldI .u32 (a11.add 1) w9 fun n12 => Calls Try.prog 69 #[(.int .u32 n10), (.int .u32 n12)] w9 fun e14 w13 => ∃ b15, e14 = .returned (.bool b15) ∧ (br b15 (stcL a4 0 (R47.mk none 0 0 0 0).l w13 fun w16 => Kr (.pointer (some a4)) (.int .i64 170) w16) (drw w13 fun w17 => ∃ w18 : World, Pres w18 w17 ∧ (ldR30 a3 w17 fun s19 => ldC (a3.add 10) w17 fun l20a l20n l20c => Calls Try.prog 70 #[(.pointer p1), s19.v, (.slice l20a l20n l20c)] w17 fun e22 w21 => ∃ b23, e22 = .returned (.bool b23) ∧ (Pres w18 w21 ∧ (br b23 (stcL a4 0 (R47.mk none 0 0 0 0).l w21 fun w24 => Kr (.pointer (some a4)) (.int .i64 171) w24) (ldR30 a3 w18 fun s25 => ldR30 a3 w21 fun s26 => Calls Try.prog 68 #[s26.v] w21 fun e28 w27 => ∃ l29a l29n l29c, e28 = .returned (.slice l29a l29n l29c) ∧ (Pres w18 w27 ∧ (Calls Try.prog 70 #[(.pointer p1), s25.v, (.slice l29a l29n l29c)] w27 fun e31 w30 => ∃ b32, e31 = .returned (.bool b32) ∧ (br b32 (stcL a4 0 (R47.mk none 0 0 0 0).l w30 fun w33 => Kr (.pointer (some a4)) (.int .i64 171) w33) (F44_11 (fun y6_33 y7_33 w35 => ∀ _g36 : Tm, rdA y6_33 fun a37 => rdI .i64 y7_33 fun n38 => Kr (.pointer (some a37)) (.int .i64 n38) w35) (.pointer p1) (.int .i64 n2) (.pointer (some a3)) (.pointer (some a4)) w30))))))))))))
def F44_12O (Q : Post) (t : Tm) (w : World) : Prop := F44_12 (fun y6 y7 w => ∀ g, rsh [(6, (.one .adr)), (7, (.one (.int .i64)))] (upds g [(6, y6), (7, y7)]) fun t => Q .ret t w) (t 0) (t 2) (t 4) (t 6) w
theorem F44_12_step (Kr : Value → Value → World → Prop) (t : Tm) (w : World) : (F44_12 Kr (t 0) (t 2) (t 4) (t 6) w) = rsh [(0, (.one .ptr)), (2, (.one (.int .i64))), (4, (.one .adr)), (6, (.one .adr))] t (fun t => vc Try.prog (orcOf [([1, 1, 1, 1, 1, 1, 0, 0, 1, 0, 0, 1, 0, 1, 1, 1, 1, 1, 1, 1, 1], F44_1O), ([1, 0, 1, 1, 1, 0, 0, 1, 0, 0, 1, 0, 1, 1, 1, 1, 1, 1, 1, 1], F44_2O), ([1, 1, 1, 1, 0, 0, 1, 0, 0, 1, 0, 1, 1, 1, 1, 1, 1, 1, 1, 1], F44_3O), ([1, 1, 1, 1, 1, 0, 0, 1, 0, 0, 1, 0, 1, 1, 1, 1, 1, 1, 1, 1], F44_4O), ([1, 1, 1, 1, 0, 0, 1, 0, 0, 1, 0, 1, 1, 1, 1, 1, 1, 1, 1], F44_5O), ([1, 1, 0, 0, 1, 0, 0, 1, 0, 1, 1, 1, 1, 1, 1, 1, 1, 1], F44_6O), ([1, 1, 0, 0, 1, 0, 0, 1, 0, 1, 1, 1, 1, 1, 1, 1, 1], F44_7O), ([0, 1, 0, 1, 1, 1, 1, 1, 1, 1, 1, 1], F44_8O), ([0, 1, 0, 1, 1, 1, 1, 1, 1, 1, 1], F44_9O), ([0, 1, 0, 1, 1, 1, 1, 1, 1], F44_10O), ([1, 1, 1, 1, 1], F44_11O)]) [1, 1] (getAt F44_code [1, 1]) (F44_12C Kr) t w) := by kernel_rfl
theorem F44_12_ok : ∀ Q t w, F44_12O Q t w → W Try.prog Try.f44.ntmps (getAt F44_code [1, 1]) Q t w := by
  intro Q t w h
  unfold F44_12O at h
  rw [F44_12_step] at h
  refine (vc_sound mixed (orcCons (π := [1, 1, 1, 1, 1, 1, 0, 0, 1, 0, 0, 1, 0, 1, 1, 1, 1, 1, 1, 1, 1]) F44_1_ok (orcCons (π := [1, 0, 1, 1, 1, 0, 0, 1, 0, 0, 1, 0, 1, 1, 1, 1, 1, 1, 1, 1]) F44_2_ok (orcCons (π := [1, 1, 1, 1, 0, 0, 1, 0, 0, 1, 0, 1, 1, 1, 1, 1, 1, 1, 1, 1]) F44_3_ok (orcCons (π := [1, 1, 1, 1, 1, 0, 0, 1, 0, 0, 1, 0, 1, 1, 1, 1, 1, 1, 1, 1]) F44_4_ok (orcCons (π := [1, 1, 1, 1, 0, 0, 1, 0, 0, 1, 0, 1, 1, 1, 1, 1, 1, 1, 1]) F44_5_ok (orcCons (π := [1, 1, 0, 0, 1, 0, 0, 1, 0, 1, 1, 1, 1, 1, 1, 1, 1, 1]) F44_6_ok (orcCons (π := [1, 1, 0, 0, 1, 0, 0, 1, 0, 1, 1, 1, 1, 1, 1, 1, 1]) F44_7_ok (orcCons (π := [0, 1, 0, 1, 1, 1, 1, 1, 1, 1, 1, 1]) F44_8_ok (orcCons (π := [0, 1, 0, 1, 1, 1, 1, 1, 1, 1, 1]) F44_9_ok (orcCons (π := [0, 1, 0, 1, 1, 1, 1, 1, 1]) F44_10_ok (orcCons (π := [1, 1, 1, 1, 1]) F44_11_ok (orcNil F44_code)))))))))))) _ _ rfl (okC_at F44_code_ok [1, 1]) _ _ _ (rsh_out h)).mono ?_
  intro o t w q
  cases o with
  | normal => exact q.elim
  | exit i => exact q.elim
  | ret => exact out_ok [6, 7] q
def F44 (x0 : Value) (x1 : Value) (x2 : Value) (w : World) (K : Value → World → Prop) : Prop :=
  rdP x0 fun p1 => exR30 fun s2 => x1 = s2.v ∧ (rdI .i64 x2 fun n3 => alc (.cells s2.c 31) w fun b4 w5 => alc (.cells ((R47.mk none 0 0 0 0)).c 48) w5 fun b6 w7 => ldI .u8 ((Addr.mk b4 0 none).add 0) w7 fun n8 => br (n8 != 3) (ldI .u8 ((Addr.mk b4 0 none).add 0) w7 fun n9 => br (n9 != 16) (stcL (Addr.mk b6 0 none) 0 (R47.mk none 0 0 0 0).l w7 fun w10 => ldR47 (Addr.mk b6 0 none) w10 fun s11 => K (.tuple #[s11.v, (.int .i64 172)]) w10) (ldC ((Addr.mk b4 0 none).add 10) w7 fun l12a l12n l12c => Calls Try.prog 67 #[(.slice l12a l12n l12c)] w7 fun e14 w13 => ∃ b15, e14 = .returned (.bool b15) ∧ (br (!b15) (stcL (Addr.mk b6 0 none) 0 (R47.mk none 0 0 0 0).l w13 fun w16 => ldR47 (Addr.mk b6 0 none) w16 fun s17 => K (.tuple #[s17.v, (.int .i64 172)]) w16) (ldR30 (Addr.mk b4 0 none) w13 fun s18 => Calls Try.prog 68 #[s18.v] w13 fun e20 w19 => ∃ l21a l21n l21c, e20 = .returned (.slice l21a l21n l21c) ∧ (Calls Try.prog 67 #[(.slice l21a l21n l21c)] w19 fun e23 w22 => ∃ b24, e23 = .returned (.bool b24) ∧ (br (!b24) (stcL (Addr.mk b6 0 none) 0 (R47.mk none 0 0 0 0).l w22 fun w25 => ldR47 (Addr.mk b6 0 none) w25 fun s26 => K (.tuple #[s26.v, (.int .i64 172)]) w25) (F44_12 (fun y6_26 y7_26 w28 => ∀ _g29 : Tm, rdA y6_26 fun a30 => rdI .i64 y7_26 fun n31 => ldR47 a30 w28 fun s32 => K (.tuple #[s32.v, (.int .i64 n31)]) w28) (.pointer p1) (.int .i64 n3) (.pointer (some (Addr.mk b4 0 none))) (.pointer (some (Addr.mk b6 0 none))) w22))))))) (ldC ((Addr.mk b4 0 none).add 10) w7 fun l33a l33n l33c => Calls Try.prog 67 #[(.slice l33a l33n l33c)] w7 fun e35 w34 => ∃ b36, e35 = .returned (.bool b36) ∧ (br (!b36) (stcL (Addr.mk b6 0 none) 0 (R47.mk none 0 0 0 0).l w34 fun w37 => ldR47 (Addr.mk b6 0 none) w37 fun s38 => K (.tuple #[s38.v, (.int .i64 172)]) w37) (ldR30 (Addr.mk b4 0 none) w34 fun s39 => Calls Try.prog 68 #[s39.v] w34 fun e41 w40 => ∃ l42a l42n l42c, e41 = .returned (.slice l42a l42n l42c) ∧ (Calls Try.prog 67 #[(.slice l42a l42n l42c)] w40 fun e44 w43 => ∃ b45, e44 = .returned (.bool b45) ∧ (br (!b45) (stcL (Addr.mk b6 0 none) 0 (R47.mk none 0 0 0 0).l w43 fun w46 => ldR47 (Addr.mk b6 0 none) w46 fun s47 => K (.tuple #[s47.v, (.int .i64 172)]) w46) (F44_12 (fun y6_47 y7_47 w49 => ∀ _g50 : Tm, rdA y6_47 fun a51 => rdI .i64 y7_47 fun n52 => ldR47 a51 w49 fun s53 => K (.tuple #[s53.v, (.int .i64 n52)]) w49) (.pointer p1) (.int .i64 n3) (.pointer (some (Addr.mk b4 0 none))) (.pointer (some (Addr.mk b6 0 none))) w43)))))))
theorem F44_step (x0 : Value) (x1 : Value) (x2 : Value) (w : World) (K : Value → World → Prop) : (F44 x0 x1 x2 w K) = rsh [(0, (.one .ptr)), (1, (.agg [(.int .u8), (.int .u8), (.int .u32), (.int .u16), (.int .u16), (.int .u32), (.int .u32), (.int .u32), (.int .u16), (.int .u16), .slc, .slc, .slc, .slc, .slc])), (2, (.one (.int .i64)))] (args0 #[x0, x1, x2]) (fun t => vc Try.prog (orcOf [([1, 1, 1, 1, 1, 1, 0, 0, 1, 0, 0, 1, 0, 1, 1, 1, 1, 1, 1, 1, 1], F44_1O), ([1, 0, 1, 1, 1, 0, 0, 1, 0, 0, 1, 0, 1, 1, 1, 1, 1, 1, 1, 1], F44_2O), ([1, 1, 1, 1, 0, 0, 1, 0, 0, 1, 0, 1, 1, 1, 1, 1, 1, 1, 1, 1], F44_3O), ([1, 1, 1, 1, 1, 0, 0, 1, 0, 0, 1, 0, 1, 1, 1, 1, 1, 1, 1, 1], F44_4O), ([1, 1, 1, 1, 0, 0, 1, 0, 0, 1, 0, 1, 1, 1, 1, 1, 1, 1, 1], F44_5O), ([1, 1, 0, 0, 1, 0, 0, 1, 0, 1, 1, 1, 1, 1, 1, 1, 1, 1], F44_6O), ([1, 1, 0, 0, 1, 0, 0, 1, 0, 1, 1, 1, 1, 1, 1, 1, 1], F44_7O), ([0, 1, 0, 1, 1, 1, 1, 1, 1, 1, 1, 1], F44_8O), ([0, 1, 0, 1, 1, 1, 1, 1, 1, 1, 1], F44_9O), ([0, 1, 0, 1, 1, 1, 1, 1, 1], F44_10O), ([1, 1, 1, 1, 1], F44_11O), ([1, 1], F44_12O)]) [] F44_code (retQ Try.prog Try.f44 K) t w) := by kernel_rfl
theorem F44_ok {x0 x1 x2 : Value} {w : World} {K : Value → World → Prop} (h : F44 x0 x1 x2 w K) : Calls Try.prog 44 #[x0, x1, x2] w fun e w' => ∃ v, e = .returned v ∧ K v w' := by
  rw [F44_step] at h
  exact calls_of (c := F44_code) mixed Try.func44 rfl (nlt rfl) (vc_sound mixed (orcCons (π := [1, 1, 1, 1, 1, 1, 0, 0, 1, 0, 0, 1, 0, 1, 1, 1, 1, 1, 1, 1, 1]) F44_1_ok (orcCons (π := [1, 0, 1, 1, 1, 0, 0, 1, 0, 0, 1, 0, 1, 1, 1, 1, 1, 1, 1, 1]) F44_2_ok (orcCons (π := [1, 1, 1, 1, 0, 0, 1, 0, 0, 1, 0, 1, 1, 1, 1, 1, 1, 1, 1, 1]) F44_3_ok (orcCons (π := [1, 1, 1, 1, 1, 0, 0, 1, 0, 0, 1, 0, 1, 1, 1, 1, 1, 1, 1, 1]) F44_4_ok (orcCons (π := [1, 1, 1, 1, 0, 0, 1, 0, 0, 1, 0, 1, 1, 1, 1, 1, 1, 1, 1]) F44_5_ok (orcCons (π := [1, 1, 0, 0, 1, 0, 0, 1, 0, 1, 1, 1, 1, 1, 1, 1, 1, 1]) F44_6_ok (orcCons (π := [1, 1, 0, 0, 1, 0, 0, 1, 0, 1, 1, 1, 1, 1, 1, 1, 1]) F44_7_ok (orcCons (π := [0, 1, 0, 1, 1, 1, 1, 1, 1, 1, 1, 1]) F44_8_ok (orcCons (π := [0, 1, 0, 1, 1, 1, 1, 1, 1, 1, 1]) F44_9_ok (orcCons (π := [0, 1, 0, 1, 1, 1, 1, 1, 1]) F44_10_ok (orcCons (π := [1, 1, 1, 1, 1]) F44_11_ok (orcCons (π := [1, 1]) F44_12_ok (orcNil F44_code))))))))))))) F44_code [] rfl F44_code_ok _ _ _ (rsh_out h))

/-! ropewalk/ropewalkref17.SameReport -/
noncomputable def F45_code : Code := Try.f45.body.getD .skip
theorem F45_code_ok : okC Try.prog Try.f45.ntmps F45_code = true := by kernel_rfl
def F45_1C (K0 : World → Prop) (Kr : Value → World → Prop) : Post := fun o t w => match o with | .normal => False | .exit i => (match Nat.beq i 0 with | true => K0  w | false => False) | .ret => Kr (t 4) w
def F45_1B (R : Value → Value → Value → World → Prop) (K0 : World → Prop) (Kr : Value → World → Prop) (x2 : Value) (x3 : Value) (x5 : Value) (w : World) : Prop :=
  rdA x2 fun a1 => rdA x3 fun a2 => rdI .i64 x5 fun n3 => ldC (a1.add 0) w fun _ l4n _ => br (decide ((n3 : Int) < (l4n : Int))) (drw w fun w5 => ldC (a1.add 0) w5 fun l6a l6n _ => ixS 4 l6a l6n n3 fun a7 => ldR52 a7 w5 fun s8 => ldC (a2.add 0) w5 fun l9a l9n _ => ixS 4 l9a l9n n3 fun a10 => ldR52 a10 w5 fun s11 => ∃ b12, ∃ w13, Sem.run Try.prog (binF Try.prog .neq 53 (.tmp 38) (.tmp 43) s8.v s11.v) w5 = .ok (.bool b12) w13 ∧ (br b12 (Kr (.bool false) w13) (R (.pointer (some a1)) (.pointer (some a2)) (.int .i64 (IntKind.wrap .i64 (n3 + 1))) w13))) (K0 w)
def F45_1 (K0 : World → Prop) (Kr : Value → World → Prop) : Nat → Value → Value → Value → World → Prop
  | 0 => fun _ _ _ _ => False
  | n + 1 => F45_1B (F45_1 K0 Kr n) K0 Kr
def F45_1O (Q : Post) (t : Tm) (w : World) : Prop := ∃ n, F45_1 (fun w => ∀ g, rsh [] (upds g []) fun t => Q (.exit 0) t w) (fun y4 w => ∀ g, rsh [(4, (.one .bool))] (upds g [(4, y4)]) fun t => Q .ret t w) n (t 2) (t 3) (t 5) w
theorem F45_1_step (K0 : World → Prop) (Kr : Value → World → Prop) (n : Nat) (t : Tm) (w : World) : (F45_1 K0 Kr (n + 1) (t 2) (t 3) (t 5) w) = rsh [(2, (.one .adr)), (3, (.one .adr)), (5, (.one (.int .i64)))] t (fun t => vc Try.prog (orcOf []) [0, 0, 1, 0, 1, 1] (getAt F45_code [0, 0, 1, 0, 1, 1]) (fun o t w => match o with | .normal => F45_1 K0 Kr n (t 2) (t 3) (t 5) w | .exit i => F45_1C K0 Kr (.exit i) t w | .ret => F45_1C K0 Kr .ret t w) t w) := by kernel_rfl
theorem F45_1_ok : ∀ Q t w, F45_1O Q t w → W Try.prog Try.f45.ntmps (getAt F45_code [0, 1, 0, 1, 1]) Q t w := by
  intro Q t w ⟨n, h⟩
  refine (W_loop (P := Try.prog) (b := getAt F45_code [0, 0, 1, 0, 1, 1]) (Q := F45_1C (fun w => ∀ g, rsh [] (upds g []) fun t => Q (.exit 0) t w) (fun y4 w => ∀ g, rsh [(4, (.one .bool))] (upds g [(4, y4)]) fun t => Q .ret t w)) (G := fun n t w => F45_1 (fun w => ∀ g, rsh [] (upds g []) fun t => Q (.exit 0) t w) (fun y4 w => ∀ g, rsh [(4, (.one .bool))] (upds g [(4, y4)]) fun t => Q .ret t w) n (t 2) (t 3) (t 5) w) (fun _ _ h => h) (fun n t w h => ?_) n t w h).mono ?_
  · rw [F45_1_step] at h
    exact vc_sound mixed (orcNil F45_code) _ _ rfl (okC_at F45_code_ok [0, 0, 1, 0, 1, 1]) _ _ _ (rsh_out h)
  · intro o t w q
    cases o with
    | normal => exact q.elim
    | exit i =>
      unfold F45_1C at q
      simp only at q
      split at q
      · rename_i hi
        rw [nbeq] at hi
        subst hi
        exact out_ok [] q
      · exact q.elim
    | ret => exact out_ok [4] q
def F45_2C (Kr : Value → World → Prop) : Post := fun o t w => match o with | .normal => False | .exit _ => (False) | .ret => Kr (t 4) w
def F45_2 (Kr : Value → World → Prop) (x2 : Value) (x3 : Value) (w : World) : Prop :=
  rdA x2 fun a1 => rdA x3 fun a2 => ∃ k10 : Nat, F45_1 (fun w4 => ∀ _g5 : Tm, Kr (.bool true) w4) (fun y4_5 w7 => ∀ _g8 : Tm, rdB y4_5 fun b9 => Kr (.bool b9) w7) k10 (.pointer (some a1)) (.pointer (some a2)) (.int .i64 0) w
def F45_2O (Q : Post) (t : Tm) (w : World) : Prop := F45_2 (fun y4 w => ∀ g, rsh [(4, (.one .bool))] (upds g [(4, y4)]) fun t => Q .ret t w) (t 2) (t 3) w
theorem F45_2_step (Kr : Value → World → Prop) (t : Tm) (w : World) : (F45_2 Kr (t 2) (t 3) w) = rsh [(2, (.one .adr)), (3, (.one .adr))] t (fun t => vc Try.prog (orcOf [([0, 1, 0, 1, 1], F45_1O)]) [1, 1] (getAt F45_code [1, 1]) (F45_2C Kr) t w) := by kernel_rfl
theorem F45_2_ok : ∀ Q t w, F45_2O Q t w → W Try.prog Try.f45.ntmps (getAt F45_code [1, 1]) Q t w := by
  intro Q t w h
  unfold F45_2O at h
  rw [F45_2_step] at h
  refine (vc_sound mixed (orcCons (π := [0, 1, 0, 1, 1]) F45_1_ok (orcNil F45_code)) _ _ rfl (okC_at F45_code_ok [1, 1]) _ _ _ (rsh_out h)).mono ?_
  intro o t w q
  cases o with
  | normal => exact q.elim
  | exit i => exact q.elim
  | ret => exact out_ok [4] q
def F45 (x0 : Value) (x1 : Value) (w : World) (K : Value → World → Prop) : Prop :=
  exR47 fun s1 => x0 = s1.v ∧ (exR47 fun s2 => x1 = s2.v ∧ (alc (.cells s1.c 48) w fun b3 w4 => alc (.cells s2.c 48) w4 fun b5 w6 => ldI .i64 ((Addr.mk b3 0 none).add 1) w6 fun n7 => ldI .i64 ((Addr.mk b5 0 none).add 1) w6 fun n8 => br (n7 != n8) (K (.bool false) w6) (ldI .i64 ((Addr.mk b3 0 none).add 2) w6 fun n9 => ldI .i64 ((Addr.mk b5 0 none).add 2) w6 fun n10 => br (n9 != n10) (K (.bool false) w6) (ldC ((Addr.mk b3 0 none).add 0) w6 fun _ l11n _ => ldC ((Addr.mk b5 0 none).add 0) w6 fun _ l12n _ => br ((l11n : Int) != (l12n : Int)) (K (.bool false) w6) (F45_2 (fun y4_12 w14 => ∀ _g15 : Tm, rdB y4_12 fun b16 => K (.bool b16) w14) (.pointer (some (Addr.mk b3 0 none))) (.pointer (some (Addr.mk b5 0 none))) w6)))))
theorem F45_step (x0 : Value) (x1 : Value) (w : World) (K : Value → World → Prop) : (F45 x0 x1 w K) = rsh [(0, (.agg [.slc, (.int .i64), (.int .i64)])), (1, (.agg [.slc, (.int .i64), (.int .i64)]))] (args0 #[x0, x1]) (fun t => vc Try.prog (orcOf [([0, 1, 0, 1, 1], F45_1O), ([1, 1], F45_2O)]) [] F45_code (retQ Try.prog Try.f45 K) t w) := by kernel_rfl
theorem F45_ok {x0 x1 : Value} {w : World} {K : Value → World → Prop} (h : F45 x0 x1 w K) : Calls Try.prog 45 #[x0, x1] w fun e w' => ∃ v, e = .returned v ∧ K v w' := by
  rw [F45_step] at h
  exact calls_of (c := F45_code) mixed Try.func45 rfl (nlt rfl) (vc_sound mixed (orcCons (π := [0, 1, 0, 1, 1]) F45_1_ok (orcCons (π := [1, 1]) F45_2_ok (orcNil F45_code))) F45_code [] rfl F45_code_ok _ _ _ (rsh_out h))

/-! (*ropewalk/ropewalkref17.Box).Timeout -/
noncomputable def F46_code : Code := Try.f46.body.getD .skip
theorem F46_code_ok : okC Try.prog Try.f46.ntmps F46_code = true := by kernel_rfl
def F46_1C (Kn : Value → Value → Value → Value → World → Prop) : Post := fun o t w => match o with | .normal => Kn (t 0) (t 1) (t 6) (t 7) w | .exit _ => (False) | .ret => False
def F46_1 (Kn : Value → Value → Value → Value → World → Prop) (x0 : Value) (x1 : Value) (x6 : Value) (x7 : Value) (x8 : Value) (x40 : Value) (w : World) : Prop :=
  rdP x0 fun p1 => rdI .i64 x1 fun n2 => rdI .i64 x6 fun n3 => rdI .i64 x7 fun n4 => rdP x8 fun p5 => rdB x40 fun b6 => br b6 (nn p5 fun a7 => stc (a7.add 6) (.int .i64 2) w fun w8 => nn p5 fun a9 => stc (a9.add 4) (.int .i64 0) w8 fun w10 => nn p5 fun a11 => ldR57 a11 w10 fun s12 => Calls Try.prog 74 #[s12.v] w10 fun e14 w13 => ∃ n15, e14 = .returned (.int .i64 n15) ∧ (Kn (.pointer p1) (.int .i64 n2) (.int .i64 (IntKind.wrap .i64 (n3 + n15))) (.int .i64 n4) w13)) (Kn (.pointer p1) (.int .i64 n2) (.int .i64 n3) (.int .i64 n4) w)
def F46_1O (Q : Post) (t : Tm) (w : World) : Prop := F46_1 (fun y0 y1 y6 y7 w => ∀ g, rsh [(0, (.one .ptr)), (1, (.one (.int .i64))), (6, (.one (.int .i64))), (7, (.one (.int .i64)))] (upds g [(0, y0), (1, y1), (6, y6), (7, y7)]) fun t => Q .normal t w) (t 0) (t 1) (t 6) (t 7) (t 8) (t 40) w
theorem F46_1_step (Kn : Value → Value → Value → Value → World → Prop) (t : Tm) (w : World) : (F46_1 Kn (t 0) (t 1) (t 6) (t 7) (t 8) (t 40) w) = rsh [(0, (.one .ptr)), (1, (.one (.int .i64))), (6, (.one (.int .i64))), (7, (.one (.int .i64))), (8, (.one .ptr)), (40, (.one .bool))] t (fun t => vc Try.prog (orcOf []) [1, 1, 0, 0, 1, 0, 0, 1, 0, 1, 1, 1] (getAt F46_code [1, 1, 0, 0, 1, 0, 0, 1, 0, 1, 1, 1]) (F46_1C Kn) t w) := by kernel_rfl
theorem F46_1_ok : ∀ Q t w, F46_1O Q t w → W Try.prog Try.f46.ntmps (getAt F46_code [1, 1, 0, 0, 1, 0, 0, 1, 0, 1, 1, 1]) Q t w := by
  intro Q t w h
  unfold F46_1O at h
  rw [F46_1_step] at h
  refine (vc_sound mixed (orcNil F46_code) _ _ rfl (okC_at F46_code_ok [1, 1, 0, 0, 1, 0, 0, 1, 0, 1, 1, 1]) _ _ _ (rsh_out h)).mono ?_
  intro o t w q
  cases o with
  | normal => exact out_ok [0, 1, 6, 7] q
  | exit i => exact q.elim
  | ret => exact q.elim
def F46_2C (K0 : Value → World → Prop) : Post := fun o t w => match o with | .normal => False | .exit i => (match Nat.beq i 0 with | true => K0 (t 6) w | false => False) | .ret => False
def F46_2B (R : Value → Value → Value → Value → World → Prop) (K0 : Value → World → Prop) (x0 : Value) (x1 : Value) (x6 : Value) (x7 : Value) (w : World) : Prop :=
  rdP x0 fun p1 => rdI .i64 x1 fun n2 => rdI .i64 x6 fun n3 => rdI .i64 x7 fun n4 => nn p1 fun a5 => ldC (a5.add 2) w fun _ l6n _ => br (decide ((n4 : Int) < (l6n : Int))) (nn p1 fun a7 => ldC (a7.add 2) w fun l8a l8n _ => ixS 14 l8a l8n n4 fun a9 => ldI .i64 (a9.add 6) w fun n10 => br (n10 == 1) (ldI .i64 (a9.add 1) w fun n11 => F46_1 (fun y0_11 y1_11 y6_11 y7_11 w13 => ∀ _g14 : Tm, rdP y0_11 fun p15 => rdI .i64 y1_11 fun n16 => rdI .i64 y6_11 fun n17 => rdI .i64 y7_11 fun n18 => R (.pointer p15) (.int .i64 n16) (.int .i64 n17) (.int .i64 (IntKind.wrap .i64 (n18 + 1))) w13) (.pointer p1) (.int .i64 n2) (.int .i64 n3) (.int .i64 n4) (.pointer (some a9)) (.bool (n11 == n2)) w) (F46_1 (fun y0_18 y1_18 y6_18 y7_18 w20 => ∀ _g21 : Tm, rdP y0_18 fun p22 => rdI .i64 y1_18 fun n23 => rdI .i64 y6_18 fun n24 => rdI .i64 y7_18 fun n25 => R (.pointer p22) (.int .i64 n23) (.int .i64 n24) (.int .i64 (IntKind.wrap .i64 (n25 + 1))) w20) (.pointer p1) (.int .i64 n2) (.int .i64 n3) (.int .i64 n4) (.pointer (some a9)) (.bool false) w)) (K0 (.int .i64 n3) w)
def F46_2 (K0 : Value → World → Prop) : Nat → Value → Value → Value → Value → World → Prop
  | 0 => fun _ _ _ _ _ => False
  | n + 1 => F46_2B (F46_2 K0 n) K0
def F46_2O (Q : Post) (t : Tm) (w : World) : Prop := ∃ n, F46_2 (fun y6 w => ∀ g, rsh [(6, (.one (.int .i64)))] (upds g [(6, y6)]) fun t => Q (.exit 0) t w) n (t 0) (t 1) (t 6) (t 7) w
theorem F46_2_step (K0 : Value → World → Prop) (n : Nat) (t : Tm) (w : World) : (F46_2 K0 (n + 1) (t 0) (t 1) (t 6) (t 7) w) = rsh [(0, (.one .ptr)), (1, (.one (.int .i64))), (6, (.one (.int .i64))), (7, (.one (.int .i64)))] t (fun t => vc Try.prog (orcOf [([1, 1, 0, 0, 1, 0, 0, 1, 0, 1, 1, 1], F46_1O)]) [0, 0, 1, 0, 1, 1, 1] (getAt F46_code [0, 0, 1, 0, 1, 1, 1]) (fun o t w => match o with | .normal => F46_2 K0 n (t 0) (t 1) (t 6) (t 7) w | .exit i => F46_2C K0 (.exit i) t w | .ret => F46_2C K0 .ret t w) t w) := by kernel_rfl
theorem F46_2_ok : ∀ Q t w, F46_2O Q t w → W Try.prog Try.f46.ntmps (getAt F46_code [0, 1, 0, 1, 1, 1]) Q t w := by
  intro Q t w ⟨n, h⟩
  refine (W_loop (P := Try.prog) (b := getAt F46_code [0, 0, 1, 0, 1, 1, 1]) (Q := F46_2C (fun y6 w => ∀ g, rsh [(6, (.one (.int .i64)))] (upds g [(6, y6)]) fun t => Q (.exit 0) t w)) (G := fun n t w => F46_2 (fun y6 w => ∀ g, rsh [(6, (.one (.int .i64)))] (upds g [(6, y6)]) fun t => Q (.exit 0) t w) n (t 0) (t 1) (t 6) (t 7) w) (fun _ _ h => h) (fun n t w h => ?_) n t w h).mono ?_
  · rw [F46_2_step] at h
    exact vc_sound mixed (orcCons (π := [1, 1, 0, 0, 1, 0, 0, 1, 0, 1, 1, 1]) F46_1_ok (orcNil F46_code)) _ _ rfl (okC_at F46_code_ok [0, 0, 1, 0, 1, 1, 1]) _ _ _ (rsh_out h)
  · intro o t w q
    cases o with
    | normal => exact q.elim
    | exit i =>
      unfold F46_2C at q
      simp only at q
      split at q
      · rename_i hi
        rw [nbeq] at hi
        subst hi
        exact out_ok [6] q
      · exact q.elim
    | ret => exact q.elim
def F46 (x0 : Value) (x1 : Value) (w : World) (K : Value → World → Prop) : Prop :=
  rdP x0 fun p1 => rdI .i64 x1 fun n2 => Calls Try.prog 65 #[(.pointer p1), (.int .i64 n2)] w fun e4 w3 => ∃ b5, e4 = .returned (.bool b5) ∧ (br (!b5) (K (.tuple #[(.int .i64 0), (.int .i64 90)]) w3) (∃ k10 : Nat, F46_2 (fun y6_5 w7 => ∀ _g8 : Tm, rdI .i64 y6_5 fun n9 => K (.tuple #[(.int .i64 n9), (.int .i64 0)]) w7) k10 (.pointer p1) (.int .i64 n2) (.int .i64 0) (.int .i64 0) w3))
theorem F46_step (x0 : Value) (x1 : Value) (w : World) (K : Value → World → Prop) : (F46 x0 x1 w K) = rsh [(0, (.one .ptr)), (1, (.one (.int .i64)))] (args0 #[x0, x1]) (fun t => vc Try.prog (orcOf [([1, 1, 0, 0, 1, 0, 0, 1, 0, 1, 1, 1], F46_1O), ([0, 1, 0, 1, 1, 1], F46_2O)]) [] F46_code (retQ Try.prog Try.f46 K) t w) := by kernel_rfl
theorem F46_ok {x0 x1 : Value} {w : World} {K : Value → World → Prop} (h : F46 x0 x1 w K) : Calls Try.prog 46 #[x0, x1] w fun e w' => ∃ v, e = .returned v ∧ K v w' := by
  rw [F46_step] at h
  exact calls_of (c := F46_code) mixed Try.func46 rfl (nlt rfl) (vc_sound mixed (orcCons (π := [1, 1, 0, 0, 1, 0, 0, 1, 0, 1, 1, 1]) F46_1_ok (orcCons (π := [0, 1, 0, 1, 1, 1]) F46_2_ok (orcNil F46_code))) F46_code [] rfl F46_code_ok _ _ _ (rsh_out h))

/-! (*ropewalk/ropewalkref17.Box).Marked -/
noncomputable def F47_code : Code := Try.f47.body.getD .skip
theorem F47_code_ok : okC Try.prog Try.f47.ntmps F47_code = true := by kernel_rfl
def F47_1C (K0 : Value → Value → Value → Value → World → Prop) : Post := fun o t w => match o with | .normal => False | .exit i => (match Nat.beq i 0 with | true => K0 (t 3) (t 5) (t 6) (t 7) w | false => False) | .ret => False
def F47_1B (R : Value → Value → Value → Value → Value → Value → World → Prop) (K0 : Value → Value → Value → Value → World → Prop) (x0 : Value) (x3 : Value) (x5 : Value) (x6 : Value) (x7 : Value) (x8 : Value) (w : World) : Prop :=
  rdP x0 fun p1 => rdA x3 fun a2 => rdI .i64 x5 fun n3 => rdA x6 fun a4 => rdB x7 fun b5 => rdI .i64 x8 fun n6 => nn p1 fun a7 => ldC (a7.add 2) w fun _ l8n _ => br (decide ((n6 : Int) < (l8n : Int))) (nn p1 fun a9 => ldC (a9.add 2) w fun l10a l10n _ => ixS 14 l10a l10n n6 fun a11 => ldI .i64 (a11.add 6) w fun n12 => br (n12 == 2) (nn p1 fun a13 => ldC (a13.add 2) w fun l14a l14n _ => ixS 14 l14a l14n n6 fun a15 => ldR57 a15 w fun s16 => Calls Try.prog 74 #[s16.v] w fun e18 w17 => ∃ n19, e18 = .returned (.int .i64 n19) ∧ (br (!b5) (nn p1 fun a20 => ldC (a20.add 2) w17 fun l21a l21n _ => ixS 14 l21a l21n n6 fun a22 => ldR57 a22 w17 fun s23 => stcL a4 0 s23.l w17 fun w24 => R (.pointer p1) (.pointer (some a2)) (.int .i64 (IntKind.wrap .i64 (n3 + n19))) (.pointer (some a4)) (.bool true) (.int .i64 (IntKind.wrap .i64 (n6 + 1))) w24) (R (.pointer p1) (.pointer (some a2)) (.int .i64 (IntKind.wrap .i64 (n3 + n19))) (.pointer (some a4)) (.bool b5) (.int .i64 (IntKind.wrap .i64 (n6 + 1))) w17))) (R (.pointer p1) (.pointer (some a2)) (.int .i64 n3) (.pointer (some a4)) (.bool b5) (.int .i64 (IntKind.wrap .i64 (n6 + 1))) w)) (K0 (.pointer (some a2)) (.int .i64 n3) (.pointer (some a4)) (.bool b5) w)
def F47_1 (K0 : Value → Value → Value → Value → World → Prop) : Nat → Value → Value → Value → Value → Value → Value → World → Prop
  | 0 => fun _ _ _ _ _ _ _ => False
  | n + 1 => F47_1B (F47_1 K0 n) K0
def F47_1O (Q : Post) (t : Tm) (w : World) : Prop := ∃ n, F47_1 (fun y3 y5 y6 y7 w => ∀ g, rsh [(3, (.one .adr)), (5, (.one (.int .i64))), (6, (.one .adr)), (7, (.one .bool))] (upds g [(3, y3), (5, y5), (6, y6), (7, y7)]) fun t => Q (.exit 0) t w) n (t 0) (t 3) (t 5) (t 6) (t 7) (t 8) w
theorem F47_1_step (K0 : Value → Value → Value → Value → World → Prop) (n : Nat) (t : Tm) (w : World) : (F47_1 K0 (n + 1) (t 0) (t 3) (t 5) (t 6) (t 7) (t 8) w) = rsh [(0, (.one .ptr)), (3, (.one .adr)), (5, (.one (.int .i64))), (6, (.one .adr)), (7, (.one .bool)), (8, (.one (.int .i64)))] t (fun t => vc Try.prog (orcOf []) [0, 0, 1, 0, 1, 1] (getAt F47_code [0, 0, 1, 0, 1, 1]) (fun o t w => match o with | .normal => F47_1 K0 n (t 0) (t 3) (t 5) (t 6) (t 7) (t 8) w | .exit i => F47_1C K0 (.exit i) t w | .ret => F47_1C K0 .ret t w) t w) := by kernel_rfl
theorem F47_1_ok : ∀ Q t w, F47_1O Q t w → W Try.prog Try.f47.ntmps (getAt F47_code [0, 1, 0, 1, 1]) Q t w := by
  intro Q t w ⟨n, h⟩
  refine (W_loop (P := Try.prog) (b := getAt F47_code [0, 0, 1, 0, 1, 1]) (Q := F47_1C (fun y3 y5 y6 y7 w => ∀ g, rsh [(3, (.one .adr)), (5, (.one (.int .i64))), (6, (.one .adr)), (7, (.one .bool))] (upds g [(3, y3), (5, y5), (6, y6), (7, y7)]) fun t => Q (.exit 0) t w)) (G := fun n t w => F47_1 (fun y3 y5 y6 y7 w => ∀ g, rsh [(3, (.one .adr)), (5, (.one (.int .i64))), (6, (.one .adr)), (7, (.one .bool))] (upds g [(3, y3), (5, y5), (6, y6), (7, y7)]) fun t => Q (.exit 0) t w) n (t 0) (t 3) (t 5) (t 6) (t 7) (t 8) w) (fun _ _ h => h) (fun n t w h => ?_) n t w h).mono ?_
  · rw [F47_1_step] at h
    exact vc_sound mixed (orcNil F47_code) _ _ rfl (okC_at F47_code_ok [0, 0, 1, 0, 1, 1]) _ _ _ (rsh_out h)
  · intro o t w q
    cases o with
    | normal => exact q.elim
    | exit i =>
      unfold F47_1C at q
      simp only at q
      split at q
      · rename_i hi
        rw [nbeq] at hi
        subst hi
        exact out_ok [3, 5, 6, 7] q
      · exact q.elim
    | ret => exact q.elim
def F47 (x0 : Value) (w : World) (K : Value → World → Prop) : Prop :=
  rdP x0 fun p1 => alc (.cells ((R57.mk 0 0 0 0 0 false 0 0 0 0 false none 0 0 false false)).c 58) w fun b2 w3 => alc (.cells ((R57.mk 0 0 0 0 0 false 0 0 0 0 false none 0 0 false false)).c 58) w3 fun b4 w5 => stcL (Addr.mk b4 0 none) 0 (R57.mk 0 0 0 0 0 false 0 0 0 0 false none 0 0 false false).l w5 fun w6 => ∃ k18 : Nat, F47_1 (fun y3_6 y5_6 y6_6 y7_6 w8 => ∀ _g9 : Tm, rdA y3_6 fun a10 => rdI .i64 y5_6 fun n11 => rdA y6_6 fun a12 => rdB y7_6 fun b13 => drw w8 fun w14 => ldR57 a12 w14 fun s15 => stcL a10 0 s15.l w14 fun w16 => ldR57 a10 w16 fun s17 => K (.tuple #[(.int .i64 n11), s17.v, (.bool b13)]) w16) k18 (.pointer p1) (.pointer (some (Addr.mk b2 0 none))) (.int .i64 0) (.pointer (some (Addr.mk b4 0 none))) (.bool false) (.int .i64 0) w6
theorem F47_step (x0 : Value) (w : World) (K : Value → World → Prop) : (F47 x0 w K) = rsh [(0, (.one .ptr))] (args0 #[x0]) (fun t => vc Try.prog (orcOf [([0, 1, 0, 1, 1], F47_1O)]) [] F47_code (retQ Try.prog Try.f47 K) t w) := by kernel_rfl
theorem F47_ok {x0 : Value} {w : World} {K : Value → World → Prop} (h : F47 x0 w K) : Calls Try.prog 47 #[x0] w fun e w' => ∃ v, e = .returned v ∧ K v w' := by
  rw [F47_step] at h
  exact calls_of (c := F47_code) mixed Try.func47 rfl (nlt rfl) (vc_sound mixed (orcCons (π := [0, 1, 0, 1, 1]) F47_1_ok (orcNil F47_code)) F47_code [] rfl F47_code_ok _ _ _ (rsh_out h))

/-! (*ropewalk/ropewalkref17.Box).Next -/
noncomputable def F48_code : Code := Try.f48.body.getD .skip
theorem F48_code_ok : okC Try.prog Try.f48.ntmps F48_code = true := by kernel_rfl
def F48 (x0 : Value) (w : World) (K : Value → World → Prop) : Prop :=
  rdP x0 fun p1 => drw w fun w2 => nn p1 fun a3 => ldI .u32 (a3.add 1) w2 fun n4 => nn p1 fun a5 => ldC (a5.add 2) w2 fun _ l6n _ => Calls Try.prog 21 #[(.int .u32 n4), (.int .u32 (IntKind.wrap .u32 ((IntKind.wrap .i64 ((l6n : Int) + 1)))))] w2 fun e8 w7 => ∃ n9, e8 = .returned (.int .u32 n9) ∧ (K (.int .u32 n9) w7)
theorem F48_step (x0 : Value) (w : World) (K : Value → World → Prop) : (F48 x0 w K) = rsh [(0, (.one .ptr))] (args0 #[x0]) (fun t => vc Try.prog (orcOf []) [] F48_code (retQ Try.prog Try.f48 K) t w) := by kernel_rfl
theorem F48_ok {x0 : Value} {w : World} {K : Value → World → Prop} (h : F48 x0 w K) : Calls Try.prog 48 #[x0] w fun e w' => ∃ v, e = .returned v ∧ K v w' := by
  rw [F48_step] at h
  exact calls_of (c := F48_code) mixed Try.func48 rfl (nlt rfl) (vc_sound mixed (orcNil F48_code) F48_code [] rfl F48_code_ok _ _ _ (rsh_out h))

/-! (*ropewalk/ropewalkref17.Box).Total -/
noncomputable def F49_code : Code := Try.f49.body.getD .skip
theorem F49_code_ok : okC Try.prog Try.f49.ntmps F49_code = true := by kernel_rfl
def F49_1C (K0 : Value → World → Prop) : Post := fun o t w => match o with | .normal => False | .exit i => (match Nat.beq i 0 with | true => K0 (t 3) w | false => False) | .ret => False
def F49_1B (R : Value → Value → Value → World → Prop) (K0 : Value → World → Prop) (x0 : Value) (x3 : Value) (x4 : Value) (w : World) : Prop :=
  rdP x0 fun p1 => rdI .i64 x3 fun n2 => rdI .i64 x4 fun n3 => nn p1 fun a4 => ldI .i64 (a4.add 0) w fun n5 => br (decide ((n3 : Int) < n5)) (Calls Try.prog 51 #[(.pointer p1), (.int .i64 n3)] w fun e7 w6 => ∃ n8, e7 = .returned (.int .i64 n8) ∧ (R (.pointer p1) (.int .i64 (IntKind.wrap .i64 (n2 + n8))) (.int .i64 (IntKind.wrap .i64 (n3 + 1))) w6)) (K0 (.int .i64 n2) w)
def F49_1 (K0 : Value → World → Prop) : Nat → Value → Value → Value → World → Prop
  | 0 => fun _ _ _ _ => False
  | n + 1 => F49_1B (F49_1 K0 n) K0
def F49_1O (Q : Post) (t : Tm) (w : World) : Prop := ∃ n, F49_1 (fun y3 w => ∀ g, rsh [(3, (.one (.int .i64)))] (upds g [(3, y3)]) fun t => Q (.exit 0) t w) n (t 0) (t 3) (t 4) w
theorem F49_1_step (K0 : Value → World → Prop) (n : Nat) (t : Tm) (w : World) : (F49_1 K0 (n + 1) (t 0) (t 3) (t 4) w) = rsh [(0, (.one .ptr)), (3, (.one (.int .i64))), (4, (.one (.int .i64)))] t (fun t => vc Try.prog (orcOf []) [0, 0, 1, 0, 1, 1] (getAt F49_code [0, 0, 1, 0, 1, 1]) (fun o t w => match o with | .normal => F49_1 K0 n (t 0) (t 3) (t 4) w | .exit i => F49_1C K0 (.exit i) t w | .ret => F49_1C K0 .ret t w) t w) := by kernel_rfl
theorem F49_1_ok : ∀ Q t w, F49_1O Q t w → W Try.prog Try.f49.ntmps (getAt F49_code [0, 1, 0, 1, 1]) Q t w := by
  intro Q t w ⟨n, h⟩
  refine (W_loop (P := Try.prog) (b := getAt F49_code [0, 0, 1, 0, 1, 1]) (Q := F49_1C (fun y3 w => ∀ g, rsh [(3, (.one (.int .i64)))] (upds g [(3, y3)]) fun t => Q (.exit 0) t w)) (G := fun n t w => F49_1 (fun y3 w => ∀ g, rsh [(3, (.one (.int .i64)))] (upds g [(3, y3)]) fun t => Q (.exit 0) t w) n (t 0) (t 3) (t 4) w) (fun _ _ h => h) (fun n t w h => ?_) n t w h).mono ?_
  · rw [F49_1_step] at h
    exact vc_sound mixed (orcNil F49_code) _ _ rfl (okC_at F49_code_ok [0, 0, 1, 0, 1, 1]) _ _ _ (rsh_out h)
  · intro o t w q
    cases o with
    | normal => exact q.elim
    | exit i =>
      unfold F49_1C at q
      simp only at q
      split at q
      · rename_i hi
        rw [nbeq] at hi
        subst hi
        exact out_ok [3] q
      · exact q.elim
    | ret => exact q.elim
def F49 (x0 : Value) (w : World) (K : Value → World → Prop) : Prop :=
  rdP x0 fun p1 => ∃ k6 : Nat, F49_1 (fun y3_1 w3 => ∀ _g4 : Tm, rdI .i64 y3_1 fun n5 => K (.int .i64 n5) w3) k6 (.pointer p1) (.int .i64 0) (.int .i64 0) w
theorem F49_step (x0 : Value) (w : World) (K : Value → World → Prop) : (F49 x0 w K) = rsh [(0, (.one .ptr))] (args0 #[x0]) (fun t => vc Try.prog (orcOf [([0, 1, 0, 1, 1], F49_1O)]) [] F49_code (retQ Try.prog Try.f49 K) t w) := by kernel_rfl
theorem F49_ok {x0 : Value} {w : World} {K : Value → World → Prop} (h : F49 x0 w K) : Calls Try.prog 49 #[x0] w fun e w' => ∃ v, e = .returned v ∧ K v w' := by
  rw [F49_step] at h
  exact calls_of (c := F49_code) mixed Try.func49 rfl (nlt rfl) (vc_sound mixed (orcCons (π := [0, 1, 0, 1, 1]) F49_1_ok (orcNil F49_code)) F49_code [] rfl F49_code_ok _ _ _ (rsh_out h))

/-! (*ropewalk/ropewalkref17.Box).First -/
noncomputable def F50_code : Code := Try.f50.body.getD .skip
theorem F50_code_ok : okC Try.prog Try.f50.ntmps F50_code = true := by kernel_rfl
def F50_1C (Kn : Value → Value → Value → Value → World → Prop) (Kr : Value → Value → World → Prop) : Post := fun o t w => match o with | .normal => Kn (t 0) (t 1) (t 4) (t 6) w | .exit _ => (False) | .ret => Kr (t 4) (t 5) w
def F50_1 (Kn : Value → Value → Value → Value → World → Prop) (Kr : Value → Value → World → Prop) (x0 : Value) (x1 : Value) (x4 : Value) (x6 : Value) (x36 : Value) (w : World) : Prop :=
  rdP x0 fun p1 => rdI .i64 x1 fun n2 => rdA x4 fun a3 => rdI .i64 x6 fun n4 => rdB x36 fun b5 => br b5 (nn p1 fun a6 => ldC (a6.add 2) w fun l7a l7n _ => ixS 14 l7a l7n n4 fun a8 => ldR57 a8 w fun s9 => stcL a3 0 s9.l w fun w10 => Kr (.pointer (some a3)) (.bool true) w10) (Kn (.pointer p1) (.int .i64 n2) (.pointer (some a3)) (.int .i64 n4) w)
def F50_1O (Q : Post) (t : Tm) (w : World) : Prop := F50_1 (fun y0 y1 y4 y6 w => ∀ g, rsh [(0, (.one .ptr)), (1, (.one (.int .i64))), (4, (.one .adr)), (6, (.one (.int .i64)))] (upds g [(0, y0), (1, y1), (4, y4), (6, y6)]) fun t => Q .normal t w) (fun y4 y5 w => ∀ g, rsh [(4, (.one .adr)), (5, (.one .bool))] (upds g [(4, y4), (5, y5)]) fun t => Q .ret t w) (t 0) (t 1) (t 4) (t 6) (t 36) w
theorem F50_1_step (Kn : Value → Value → Value → Value → World → Prop) (Kr : Value → Value → World → Prop) (t : Tm) (w : World) : (F50_1 Kn Kr (t 0) (t 1) (t 4) (t 6) (t 36) w) = rsh [(0, (.one .ptr)), (1, (.one (.int .i64))), (4, (.one .adr)), (6, (.one (.int .i64))), (36, (.one .bool))] t (fun t => vc Try.prog (orcOf []) [1, 0, 0, 1, 0, 0, 1, 0, 1] (getAt F50_code [1, 0, 0, 1, 0, 0, 1, 0, 1]) (F50_1C Kn Kr) t w) := by kernel_rfl
theorem F50_1_ok : ∀ Q t w, F50_1O Q t w → W Try.prog Try.f50.ntmps (getAt F50_code [1, 0, 0, 1, 0, 0, 1, 0, 1]) Q t w := by
  intro Q t w h
  unfold F50_1O at h
  rw [F50_1_step] at h
  refine (vc_sound mixed (orcNil F50_code) _ _ rfl (okC_at F50_code_ok [1, 0, 0, 1, 0, 0, 1, 0, 1]) _ _ _ (rsh_out h)).mono ?_
  intro o t w q
  cases o with
  | normal => exact out_ok [0, 1, 4, 6] q
  | exit i => exact q.elim
  | ret => exact out_ok [4, 5] q
def F50_2C (K0 : Value → World → Prop) (Kr : Value → Value → World → Prop) : Post := fun o t w => match o with | .normal => False | .exit i => (match Nat.beq i 0 with | true => K0 (t 4) w | false => False) | .ret => Kr (t 4) (t 5) w
def F50_2B (R : Value → Value → Value → Value → World → Prop) (K0 : Value → World → Prop) (Kr : Value → Value → World → Prop) (x0 : Value) (x1 : Value) (x4 : Value) (x6 : Value) (w : World) : Prop :=
  rdP x0 fun p1 => rdI .i64 x1 fun n2 => rdA x4 fun a3 => rdI .i64 x6 fun n4 => nn p1 fun a5 => ldC (a5.add 2) w fun _ l6n _ => br (decide ((n4 : Int) < (l6n : Int))) (nn p1 fun a7 => ldC (a7.add 2) w fun l8a l8n _ => ixS 14 l8a l8n n4 fun a9 => ldI .i64 (a9.add 6) w fun n10 => br (n10 == 1) (nn p1 fun a11 => ldC (a11.add 2) w fun l12a l12n _ => ixS 14 l12a l12n n4 fun a13 => ldI .i64 (a13.add 1) w fun n14 => F50_1 (fun y0_14 y1_14 y4_14 y6_14 w16 => ∀ _g17 : Tm, rdP y0_14 fun p18 => rdI .i64 y1_14 fun n19 => rdA y4_14 fun a20 => rdI .i64 y6_14 fun n21 => R (.pointer p18) (.int .i64 n19) (.pointer (some a20)) (.int .i64 (IntKind.wrap .i64 (n21 + 1))) w16) (fun y4_21 y5_21 w23 => ∀ _g24 : Tm, rdA y4_21 fun a25 => rdB y5_21 fun b26 => Kr (.pointer (some a25)) (.bool b26) w23) (.pointer p1) (.int .i64 n2) (.pointer (some a3)) (.int .i64 n4) (.bool (n14 == n2)) w) (F50_1 (fun y0_26 y1_26 y4_26 y6_26 w28 => ∀ _g29 : Tm, rdP y0_26 fun p30 => rdI .i64 y1_26 fun n31 => rdA y4_26 fun a32 => rdI .i64 y6_26 fun n33 => R (.pointer p30) (.int .i64 n31) (.pointer (some a32)) (.int .i64 (IntKind.wrap .i64 (n33 + 1))) w28) (fun y4_33 y5_33 w35 => ∀ _g36 : Tm, rdA y4_33 fun a37 => rdB y5_33 fun b38 => Kr (.pointer (some a37)) (.bool b38) w35) (.pointer p1) (.int .i64 n2) (.pointer (some a3)) (.int .i64 n4) (.bool false) w)) (K0 (.pointer (some a3)) w)
def F50_2 (K0 : Value → World → Prop) (Kr : Value → Value → World → Prop) : Nat → Value → Value → Value → Value → World → Prop
  | 0 => fun _ _ _ _ _ => False
  | n + 1 => F50_2B (F50_2 K0 Kr n) K0 Kr
def F50_2O (Q : Post) (t : Tm) (w : World) : Prop := ∃ n, F50_2 (fun y4 w => ∀ g, rsh [(4, (.one .adr))] (upds g [(4, y4)]) fun t => Q (.exit 0) t w) (fun y4 y5 w => ∀ g, rsh [(4, (.one .adr)), (5, (.one .bool))] (upds g [(4, y4), (5, y5)]) fun t => Q .ret t w) n (t 0) (t 1) (t 4) (t 6) w
theorem F50_2_step (K0 : Value → World → Prop) (Kr : Value → Value → World → Prop) (n : Nat) (t : Tm) (w : World) : (F50_2 K0 Kr (n + 1) (t 0) (t 1) (t 4) (t 6) w) = rsh [(0, (.one .ptr)), (1, (.one (.int .i64))), (4, (.one .adr)), (6, (.one (.int .i64)))] t (fun t => vc Try.prog (orcOf [([1, 0, 0, 1, 0, 0, 1, 0, 1], F50_1O)]) [0, 0, 1, 0, 1] (getAt F50_code [0, 0, 1, 0, 1]) (fun o t w => match o with | .normal => F50_2 K0 Kr n (t 0) (t 1) (t 4) (t 6) w | .exit i => F50_2C K0 Kr (.exit i) t w | .ret => F50_2C K0 Kr .ret t w) t w) := by kernel_rfl
theorem F50_2_ok : ∀ Q t w, F50_2O Q t w → W Try.prog Try.f50.ntmps (getAt F50_code [0, 1, 0, 1]) Q t w := by
  intro Q t w ⟨n, h⟩
  refine (W_loop (P := Try.prog) (b := getAt F50_code [0, 0, 1, 0, 1]) (Q := F50_2C (fun y4 w => ∀ g, rsh [(4, (.one .adr))] (upds g [(4, y4)]) fun t => Q (.exit 0) t w) (fun y4 y5 w => ∀ g, rsh [(4, (.one .adr)), (5, (.one .bool))] (upds g [(4, y4), (5, y5)]) fun t => Q .ret t w)) (G := fun n t w => F50_2 (fun y4 w => ∀ g, rsh [(4, (.one .adr))] (upds g [(4, y4)]) fun t => Q (.exit 0) t w) (fun y4 y5 w => ∀ g, rsh [(4, (.one .adr)), (5, (.one .bool))] (upds g [(4, y4), (5, y5)]) fun t => Q .ret t w) n (t 0) (t 1) (t 4) (t 6) w) (fun _ _ h => h) (fun n t w h => ?_) n t w h).mono ?_
  · rw [F50_2_step] at h
    exact vc_sound mixed (orcCons (π := [1, 0, 0, 1, 0, 0, 1, 0, 1]) F50_1_ok (orcNil F50_code)) _ _ rfl (okC_at F50_code_ok [0, 0, 1, 0, 1]) _ _ _ (rsh_out h)
  · intro o t w q
    cases o with
    | normal => exact q.elim
    | exit i =>
      unfold F50_2C at q
      simp only at q
      split at q
      · rename_i hi
        rw [nbeq] at hi
        subst hi
        exact out_ok [4] q
      · exact q.elim
    | ret => exact out_ok [4, 5] q
def F50 (x0 : Value) (x1 : Value) (w : World) (K : Value → World → Prop) : Prop :=
  rdP x0 fun p1 => rdI .i64 x1 fun n2 => alc (.cells ((R57.mk 0 0 0 0 0 false 0 0 0 0 false none 0 0 false false)).c 58) w fun b3 w4 => ∃ k17 : Nat, F50_2 (fun y4_4 w6 => ∀ _g7 : Tm, rdA y4_4 fun a8 => stcL a8 0 (R57.mk 0 0 0 0 0 false 0 0 0 0 false none 0 0 false false).l w6 fun w9 => ldR57 a8 w9 fun s10 => K (.tuple #[s10.v, (.bool false)]) w9) (fun y4_10 y5_10 w12 => ∀ _g13 : Tm, rdA y4_10 fun a14 => rdB y5_10 fun b15 => ldR57 a14 w12 fun s16 => K (.tuple #[s16.v, (.bool b15)]) w12) k17 (.pointer p1) (.int .i64 n2) (.pointer (some (Addr.mk b3 0 none))) (.int .i64 0) w4
theorem F50_step (x0 : Value) (x1 : Value) (w : World) (K : Value → World → Prop) : (F50 x0 x1 w K) = rsh [(0, (.one .ptr)), (1, (.one (.int .i64)))] (args0 #[x0, x1]) (fun t => vc Try.prog (orcOf [([1, 0, 0, 1, 0, 0, 1, 0, 1], F50_1O), ([0, 1, 0, 1], F50_2O)]) [] F50_code (retQ Try.prog Try.f50 K) t w) := by kernel_rfl
theorem F50_ok {x0 x1 : Value} {w : World} {K : Value → World → Prop} (h : F50 x0 x1 w K) : Calls Try.prog 50 #[x0, x1] w fun e w' => ∃ v, e = .returned v ∧ K v w' := by
  rw [F50_step] at h
  exact calls_of (c := F50_code) mixed Try.func50 rfl (nlt rfl) (vc_sound mixed (orcCons (π := [1, 0, 0, 1, 0, 0, 1, 0, 1]) F50_1_ok (orcCons (π := [0, 1, 0, 1]) F50_2_ok (orcNil F50_code))) F50_code [] rfl F50_code_ok _ _ _ (rsh_out h))

/-! (*ropewalk/ropewalkref17.Box).Flying -/
noncomputable def F51_code : Code := Try.f51.body.getD .skip
theorem F51_code_ok : okC Try.prog Try.f51.ntmps F51_code = true := by kernel_rfl
def F51_1C (Kn : Value → Value → Value → Value → World → Prop) : Post := fun o t w => match o with | .normal => Kn (t 0) (t 1) (t 5) (t 6) w | .exit _ => (False) | .ret => False
def F51_1 (Kn : Value → Value → Value → Value → World → Prop) (x0 : Value) (x1 : Value) (x5 : Value) (x6 : Value) (x36 : Value) (w : World) : Prop :=
  rdP x0 fun p1 => rdI .i64 x1 fun n2 => rdI .i64 x5 fun n3 => rdI .i64 x6 fun n4 => rdB x36 fun b5 => br b5 (nn p1 fun a6 => ldC (a6.add 2) w fun l7a l7n _ => ixS 14 l7a l7n n4 fun a8 => ldR57 a8 w fun s9 => Calls Try.prog 74 #[s9.v] w fun e11 w10 => ∃ n12, e11 = .returned (.int .i64 n12) ∧ (Kn (.pointer p1) (.int .i64 n2) (.int .i64 (IntKind.wrap .i64 (n3 + n12))) (.int .i64 n4) w10)) (Kn (.pointer p1) (.int .i64 n2) (.int .i64 n3) (.int .i64 n4) w)
def F51_1O (Q : Post) (t : Tm) (w : World) : Prop := F51_1 (fun y0 y1 y5 y6 w => ∀ g, rsh [(0, (.one .ptr)), (1, (.one (.int .i64))), (5, (.one (.int .i64))), (6, (.one (.int .i64)))] (upds g [(0, y0), (1, y1), (5, y5), (6, y6)]) fun t => Q .normal t w) (t 0) (t 1) (t 5) (t 6) (t 36) w
theorem F51_1_step (Kn : Value → Value → Value → Value → World → Prop) (t : Tm) (w : World) : (F51_1 Kn (t 0) (t 1) (t 5) (t 6) (t 36) w) = rsh [(0, (.one .ptr)), (1, (.one (.int .i64))), (5, (.one (.int .i64))), (6, (.one (.int .i64))), (36, (.one .bool))] t (fun t => vc Try.prog (orcOf []) [1, 0, 0, 1, 0, 0, 1, 0, 1, 1] (getAt F51_code [1, 0, 0, 1, 0, 0, 1, 0, 1, 1]) (F51_1C Kn) t w) := by kernel_rfl
theorem F51_1_ok : ∀ Q t w, F51_1O Q t w → W Try.prog Try.f51.ntmps (getAt F51_code [1, 0, 0, 1, 0, 0, 1, 0, 1, 1]) Q t w := by
  intro Q t w h
  unfold F51_1O at h
  rw [F51_1_step] at h
  refine (vc_sound mixed (orcNil F51_code) _ _ rfl (okC_at F51_code_ok [1, 0, 0, 1, 0, 0, 1, 0, 1, 1]) _ _ _ (rsh_out h)).mono ?_
  intro o t w q
  cases o with
  | normal => exact out_ok [0, 1, 5, 6] q
  | exit i => exact q.elim
  | ret => exact q.elim
def F51_2C (K0 : Value → World → Prop) : Post := fun o t w => match o with | .normal => False | .exit i => (match Nat.beq i 0 with | true => K0 (t 5) w | false => False) | .ret => False
def F51_2B (R : Value → Value → Value → Value → World → Prop) (K0 : Value → World → Prop) (x0 : Value) (x1 : Value) (x5 : Value) (x6 : Value) (w : World) : Prop :=
  rdP x0 fun p1 => rdI .i64 x1 fun n2 => rdI .i64 x5 fun n3 => rdI .i64 x6 fun n4 => nn p1 fun a5 => ldC (a5.add 2) w fun _ l6n _ => br (decide ((n4 : Int) < (l6n : Int))) (nn p1 fun a7 => ldC (a7.add 2) w fun l8a l8n _ => ixS 14 l8a l8n n4 fun a9 => ldI .i64 (a9.add 6) w fun n10 => br (n10 == 1) (nn p1 fun a11 => ldC (a11.add 2) w fun l12a l12n _ => ixS 14 l12a l12n n4 fun a13 => ldI .i64 (a13.add 1) w fun n14 => F51_1 (fun y0_14 y1_14 y5_14 y6_14 w16 => ∀ _g17 : Tm, rdP y0_14 fun p18 => rdI .i64 y1_14 fun n19 => rdI .i64 y5_14 fun n20 => rdI .i64 y6_14 fun n21 => R (.pointer p18) (.int .i64 n19) (.int .i64 n20) (.int .i64 (IntKind.wrap .i64 (n21 + 1))) w16) (.pointer p1) (.int .i64 n2) (.int .i64 n3) (.int .i64 n4) (.bool (n14 == n2)) w) (F51_1 (fun y0_21 y1_21 y5_21 y6_21 w23 => ∀ _g24 : Tm, rdP y0_21 fun p25 => rdI .i64 y1_21 fun n26 => rdI .i64 y5_21 fun n27 => rdI .i64 y6_21 fun n28 => R (.pointer p25) (.int .i64 n26) (.int .i64 n27) (.int .i64 (IntKind.wrap .i64 (n28 + 1))) w23) (.pointer p1) (.int .i64 n2) (.int .i64 n3) (.int .i64 n4) (.bool false) w)) (K0 (.int .i64 n3) w)
def F51_2 (K0 : Value → World → Prop) : Nat → Value → Value → Value → Value → World → Prop
  | 0 => fun _ _ _ _ _ => False
  | n + 1 => F51_2B (F51_2 K0 n) K0
def F51_2O (Q : Post) (t : Tm) (w : World) : Prop := ∃ n, F51_2 (fun y5 w => ∀ g, rsh [(5, (.one (.int .i64)))] (upds g [(5, y5)]) fun t => Q (.exit 0) t w) n (t 0) (t 1) (t 5) (t 6) w
theorem F51_2_step (K0 : Value → World → Prop) (n : Nat) (t : Tm) (w : World) : (F51_2 K0 (n + 1) (t 0) (t 1) (t 5) (t 6) w) = rsh [(0, (.one .ptr)), (1, (.one (.int .i64))), (5, (.one (.int .i64))), (6, (.one (.int .i64)))] t (fun t => vc Try.prog (orcOf [([1, 0, 0, 1, 0, 0, 1, 0, 1, 1], F51_1O)]) [0, 0, 1, 0, 1, 1] (getAt F51_code [0, 0, 1, 0, 1, 1]) (fun o t w => match o with | .normal => F51_2 K0 n (t 0) (t 1) (t 5) (t 6) w | .exit i => F51_2C K0 (.exit i) t w | .ret => F51_2C K0 .ret t w) t w) := by kernel_rfl
theorem F51_2_ok : ∀ Q t w, F51_2O Q t w → W Try.prog Try.f51.ntmps (getAt F51_code [0, 1, 0, 1, 1]) Q t w := by
  intro Q t w ⟨n, h⟩
  refine (W_loop (P := Try.prog) (b := getAt F51_code [0, 0, 1, 0, 1, 1]) (Q := F51_2C (fun y5 w => ∀ g, rsh [(5, (.one (.int .i64)))] (upds g [(5, y5)]) fun t => Q (.exit 0) t w)) (G := fun n t w => F51_2 (fun y5 w => ∀ g, rsh [(5, (.one (.int .i64)))] (upds g [(5, y5)]) fun t => Q (.exit 0) t w) n (t 0) (t 1) (t 5) (t 6) w) (fun _ _ h => h) (fun n t w h => ?_) n t w h).mono ?_
  · rw [F51_2_step] at h
    exact vc_sound mixed (orcCons (π := [1, 0, 0, 1, 0, 0, 1, 0, 1, 1]) F51_1_ok (orcNil F51_code)) _ _ rfl (okC_at F51_code_ok [0, 0, 1, 0, 1, 1]) _ _ _ (rsh_out h)
  · intro o t w q
    cases o with
    | normal => exact q.elim
    | exit i =>
      unfold F51_2C at q
      simp only at q
      split at q
      · rename_i hi
        rw [nbeq] at hi
        subst hi
        exact out_ok [5] q
      · exact q.elim
    | ret => exact q.elim
def F51 (x0 : Value) (x1 : Value) (w : World) (K : Value → World → Prop) : Prop :=
  rdP x0 fun p1 => rdI .i64 x1 fun n2 => ∃ k7 : Nat, F51_2 (fun y5_2 w4 => ∀ _g5 : Tm, rdI .i64 y5_2 fun n6 => K (.int .i64 n6) w4) k7 (.pointer p1) (.int .i64 n2) (.int .i64 0) (.int .i64 0) w
theorem F51_step (x0 : Value) (x1 : Value) (w : World) (K : Value → World → Prop) : (F51 x0 x1 w K) = rsh [(0, (.one .ptr)), (1, (.one (.int .i64)))] (args0 #[x0, x1]) (fun t => vc Try.prog (orcOf [([1, 0, 0, 1, 0, 0, 1, 0, 1, 1], F51_1O), ([0, 1, 0, 1, 1], F51_2O)]) [] F51_code (retQ Try.prog Try.f51 K) t w) := by kernel_rfl
theorem F51_ok {x0 x1 : Value} {w : World} {K : Value → World → Prop} (h : F51 x0 x1 w K) : Calls Try.prog 51 #[x0, x1] w fun e w' => ∃ v, e = .returned v ∧ K v w' := by
  rw [F51_step] at h
  exact calls_of (c := F51_code) mixed Try.func51 rfl (nlt rfl) (vc_sound mixed (orcCons (π := [1, 0, 0, 1, 0, 0, 1, 0, 1, 1]) F51_1_ok (orcCons (π := [0, 1, 0, 1, 1]) F51_2_ok (orcNil F51_code))) F51_code [] rfl F51_code_ok _ _ _ (rsh_out h))

/-! ropewalk/outbox.marked -/
noncomputable def F52_code : Code := Try.f52.body.getD .skip
theorem F52_code_ok : okC Try.prog Try.f52.ntmps F52_code = true := by kernel_rfl
def F52 (x0 : Value) (w : World) (K : Value → World → Prop) : Prop :=
  rdP x0 fun p1 => nn p1 fun a2 => ldI .i64 ((a2.add 0).add 6) w fun n3 => K (.bool (n3 == 2)) w
theorem F52_step (x0 : Value) (w : World) (K : Value → World → Prop) : (F52 x0 w K) = rsh [(0, (.one .ptr))] (args0 #[x0]) (fun t => vc Try.prog (orcOf []) [] F52_code (retQ Try.prog Try.f52 K) t w) := by kernel_rfl
theorem F52_ok {x0 : Value} {w : World} {K : Value → World → Prop} (h : F52 x0 w K) : Calls Try.prog 52 #[x0] w fun e w' => ∃ v, e = .returned v ∧ K v w' := by
  rw [F52_step] at h
  exact calls_of (c := F52_code) mixed Try.func52 rfl (nlt rfl) (vc_sound mixed (orcNil F52_code) F52_code [] rfl F52_code_ok _ _ _ (rsh_out h))

/-! (*ropewalk/outbox.Box).sum -/
noncomputable def F53_code : Code := Try.f53.body.getD .skip
theorem F53_code_ok : okC Try.prog Try.f53.ntmps F53_code = true := by kernel_rfl
def F53_1C (K0 : Value → World → Prop) : Post := fun o t w => match o with | .normal => False | .exit i => (match Nat.beq i 0 with | true => K0 (t 5) w | false => False) | .ret => False
def F53_1B (R : Value → Value → Value → Value → Value → World → Prop) (K0 : Value → World → Prop) (x1 : Value) (x5 : Value) (x13 : Value) (x14 : Value) (x15 : Value) (w : World) : Prop :=
  rdI .i64 x5 fun n1 => rdC x13 fun l2a l2n l2c => rdI .i64 x14 fun n3 => rdI .i64 x15 fun n4 => br (decide ((n4 : Int) < n3)) (ixS 1 l2a l2n n4 fun a5 => ldP a5 w fun p6 => callV Try.prog x1 #[(.pointer p6)] w (.one (.one .bool)) fun r8 w7 => ∃ b9, r8 = (.bool b9) ∧ (br b9 (Calls Try.prog 60 #[(.pointer p6)] w7 fun e11 w10 => ∃ n12, e11 = .returned (.int .i64 n12) ∧ (R x1 (.int .i64 (IntKind.wrap .i64 (n1 + n12))) (.slice l2a l2n l2c) (.int .i64 n3) (.int .i64 (IntKind.wrap .i64 (n4 + 1))) w10)) (R x1 (.int .i64 n1) (.slice l2a l2n l2c) (.int .i64 n3) (.int .i64 (IntKind.wrap .i64 (n4 + 1))) w7))) (K0 (.int .i64 n1) w)
def F53_1 (K0 : Value → World → Prop) : Nat → Value → Value → Value → Value → Value → World → Prop
  | 0 => fun _ _ _ _ _ _ => False
  | n + 1 => F53_1B (F53_1 K0 n) K0
def F53_1O (Q : Post) (t : Tm) (w : World) : Prop := ∃ n, F53_1 (fun y5 w => ∀ g, rsh [(5, (.one (.int .i64)))] (upds g [(5, y5)]) fun t => Q (.exit 0) t w) n (t 1) (t 5) (t 13) (t 14) (t 15) w
theorem F53_1_step (K0 : Value → World → Prop) (n : Nat) (t : Tm) (w : World) : (F53_1 K0 (n + 1) (t 1) (t 5) (t 13) (t 14) (t 15) w) = rsh [(5, (.one (.int .i64))), (13, (.one .slc)), (14, (.one (.int .i64))), (15, (.one (.int .i64)))] t (fun t => vc Try.prog (orcOf []) [0, 0, 1, 0, 1, 0, 1, 1] (getAt F53_code [0, 0, 1, 0, 1, 0, 1, 1]) (fun o t w => match o with | .normal => F53_1 K0 n (t 1) (t 5) (t 13) (t 14) (t 15) w | .exit i => F53_1C K0 (.exit i) t w | .ret => F53_1C K0 .ret t w) t w) := by kernel_rfl
theorem F53_1_ok : ∀ Q t w, F53_1O Q t w → W Try.prog Try.f53.ntmps (getAt F53_code [0, 1, 0, 1, 0, 1, 1]) Q t w := by
  intro Q t w ⟨n, h⟩
  refine (W_loop (P := Try.prog) (b := getAt F53_code [0, 0, 1, 0, 1, 0, 1, 1]) (Q := F53_1C (fun y5 w => ∀ g, rsh [(5, (.one (.int .i64)))] (upds g [(5, y5)]) fun t => Q (.exit 0) t w)) (G := fun n t w => F53_1 (fun y5 w => ∀ g, rsh [(5, (.one (.int .i64)))] (upds g [(5, y5)]) fun t => Q (.exit 0) t w) n (t 1) (t 5) (t 13) (t 14) (t 15) w) (fun _ _ h => h) (fun n t w h => ?_) n t w h).mono ?_
  · rw [F53_1_step] at h
    exact vc_sound mixed (orcNil F53_code) _ _ rfl (okC_at F53_code_ok [0, 0, 1, 0, 1, 0, 1, 1]) _ _ _ (rsh_out h)
  · intro o t w q
    cases o with
    | normal => exact q.elim
    | exit i =>
      unfold F53_1C at q
      simp only at q
      split at q
      · rename_i hi
        rw [nbeq] at hi
        subst hi
        exact out_ok [5] q
      · exact q.elim
    | ret => exact q.elim
def F53 (x0 : Value) (x1 : Value) (w : World) (K : Value → World → Prop) : Prop :=
  rdP x0 fun p1 => Calls Try.prog 31 #[(.pointer p1)] w fun e3 w2 => ∃ b4, e3 = .returned (.bool b4) ∧ (br b4 (nn p1 fun a5 => ldC (a5.add 2) w2 fun l6a l6n l6c => ∃ k11 : Nat, F53_1 (fun y5_6 w8 => ∀ _g9 : Tm, rdI .i64 y5_6 fun n10 => K (.int .i64 n10) w8) k11 x1 (.int .i64 0) (.slice l6a l6n l6c) (.int .i64 (l6n : Int)) (.int .i64 0) w2) (K (.int .i64 0) w2))
theorem F53_step (x0 : Value) (x1 : Value) (w : World) (K : Value → World → Prop) : (F53 x0 x1 w K) = rsh [(0, (.one .ptr))] (args0 #[x0, x1]) (fun t => vc Try.prog (orcOf [([0, 1, 0, 1, 0, 1, 1], F53_1O)]) [] F53_code (retQ Try.prog Try.f53 K) t w) := by kernel_rfl
theorem F53_ok {x0 x1 : Value} {w : World} {K : Value → World → Prop} (h : F53 x0 x1 w K) : Calls Try.prog 53 #[x0, x1] w fun e w' => ∃ v, e = .returned v ∧ K v w' := by
  rw [F53_step] at h
  exact calls_of (c := F53_code) mixed Try.func53 rfl (nlt rfl) (vc_sound mixed (orcCons (π := [0, 1, 0, 1, 0, 1, 1]) F53_1_ok (orcNil F53_code)) F53_code [] rfl F53_code_ok _ _ _ (rsh_out h))

/-! (*ropewalk/outbox.entry).mark -/
noncomputable def F54_code : Code := Try.f54.body.getD .skip
theorem F54_code_ok : okC Try.prog Try.f54.ntmps F54_code = true := by kernel_rfl
def F54 (x0 : Value) (w : World) (K : Value → World → Prop) : Prop :=
  rdP x0 fun p1 => nn p1 fun a2 => stc ((a2.add 0).add 6) (.int .i64 2) w fun w3 => nn p1 fun a4 => stc ((a4.add 0).add 4) (.int .i64 0) w3 fun w5 => K (.tuple #[]) w5
theorem F54_step (x0 : Value) (w : World) (K : Value → World → Prop) : (F54 x0 w K) = rsh [(0, (.one .ptr))] (args0 #[x0]) (fun t => vc Try.prog (orcOf []) [] F54_code (retQ Try.prog Try.f54 K) t w) := by kernel_rfl
theorem F54_ok {x0 : Value} {w : World} {K : Value → World → Prop} (h : F54 x0 w K) : Calls Try.prog 54 #[x0] w fun e w' => ∃ v, e = .returned v ∧ K v w' := by
  rw [F54_step] at h
  exact calls_of (c := F54_code) mixed Try.func54 rfl (nlt rfl) (vc_sound mixed (orcNil F54_code) F54_code [] rfl F54_code_ok _ _ _ (rsh_out h))

/-! ropewalk/outbox.flying -/
noncomputable def F55_code : Code := Try.f55.body.getD .skip
theorem F55_code_ok : okC Try.prog Try.f55.ntmps F55_code = true := by kernel_rfl
def F55 (x0 : Value) (w : World) (K : Value → World → Prop) : Prop :=
  rdP x0 fun p1 => nn p1 fun a2 => ldI .i64 ((a2.add 0).add 6) w fun n3 => K (.bool (n3 == 1)) w
theorem F55_step (x0 : Value) (w : World) (K : Value → World → Prop) : (F55 x0 w K) = rsh [(0, (.one .ptr))] (args0 #[x0]) (fun t => vc Try.prog (orcOf []) [] F55_code (retQ Try.prog Try.f55 K) t w) := by kernel_rfl
theorem F55_ok {x0 : Value} {w : World} {K : Value → World → Prop} (h : F55 x0 w K) : Calls Try.prog 55 #[x0] w fun e w' => ∃ v, e = .returned v ∧ K v w' := by
  rw [F55_step] at h
  exact calls_of (c := F55_code) mixed Try.func55 rfl (nlt rfl) (vc_sound mixed (orcNil F55_code) F55_code [] rfl F55_code_ok _ _ _ (rsh_out h))

/-! slices.Clone[[]byte,byte] -/
noncomputable def F56_code : Code := Try.f56.body.getD .skip
theorem F56_code_ok : okC Try.prog Try.f56.ntmps F56_code = true := by kernel_rfl
def F56 (x0 : Value) (w : World) (K : Value → World → Prop) : Prop :=
  rdC x0 fun l1a l1n l1c => br (Option.isNone l1a) (K (.slice none 0 0) w) (∃ l2a l2n l2c, ∃ w3, Sem.run Try.prog (Instr.buildSlice 23 0 #[]) w = .ok (.slice l2a l2n l2c) w3 ∧ (∃ l4a l4n l4c w5, Sem.run Try.prog (Builtin.append_ #[23, 23] 23 #[(.slice l2a l2n l2c), (.slice l1a l1n l1c)]) w3 = .ok (.slice l4a l4n l4c) w5 ∧ (K (.slice l4a l4n l4c) w5)))
theorem F56_step (x0 : Value) (w : World) (K : Value → World → Prop) : (F56 x0 w K) = rsh [(0, (.one .slc))] (args0 #[x0]) (fun t => vc Try.prog (orcOf []) [] F56_code (retQ Try.prog Try.f56 K) t w) := by kernel_rfl
theorem F56_ok {x0 : Value} {w : World} {K : Value → World → Prop} (h : F56 x0 w K) : Calls Try.prog 56 #[x0] w fun e w' => ∃ v, e = .returned v ∧ K v w' := by
  rw [F56_step] at h
  exact calls_of (c := F56_code) mixed Try.func56 rfl (nlt rfl) (vc_sound mixed (orcNil F56_code) F56_code [] rfl F56_code_ok _ _ _ (rsh_out h))

/-! ropewalk/serial.Less -/
noncomputable def F57_code : Code := Try.f57.body.getD .skip
theorem F57_code_ok : okC Try.prog Try.f57.ntmps F57_code = true := by kernel_rfl
def F57 (x0 : Value) (x1 : Value) (w : World) (K : Value → World → Prop) : Prop :=
  rdI .u32 x0 fun n1 => rdI .u32 x1 fun n2 => Calls Try.prog 62 #[(.int .u32 n1), (.int .u32 n2)] w fun e4 w3 => ∃ n5, e4 = .returned (.int .i64 n5) ∧ (K (.bool (decide ((n5 : Int) > 0))) w3)
theorem F57_step (x0 : Value) (x1 : Value) (w : World) (K : Value → World → Prop) : (F57 x0 x1 w K) = rsh [(0, (.one (.int .u32))), (1, (.one (.int .u32)))] (args0 #[x0, x1]) (fun t => vc Try.prog (orcOf []) [] F57_code (retQ Try.prog Try.f57 K) t w) := by kernel_rfl
theorem F57_ok {x0 x1 : Value} {w : World} {K : Value → World → Prop} (h : F57 x0 x1 w K) : Calls Try.prog 57 #[x0, x1] w fun e w' => ∃ v, e = .returned v ∧ K v w' := by
  rw [F57_step] at h
  exact calls_of (c := F57_code) mixed Try.func57 rfl (nlt rfl) (vc_sound mixed (orcNil F57_code) F57_code [] rfl F57_code_ok _ _ _ (rsh_out h))

/-! (*ropewalk/outbox.Box).blocks -/
noncomputable def F58_code : Code := Try.f58.body.getD .skip
theorem F58_code_ok : okC Try.prog Try.f58.ntmps F58_code = true := by kernel_rfl
def F58_1C (K4 : Value → Value → Value → Value → Value → Value → Value → Value → World → Prop) : Post := fun o t w => match o with | .normal => False | .exit i => (match Nat.beq i 4 with | true => K4 (t 2) (t 8) (t 22) (t 23) (t 24) (t 28) (t 29) (t 30) w | false => False) | .ret => False
def F58_1B (R : Value → Value → Value → Value → Value → Value → Value → Value → Value → Value → World → Prop) (K4 : Value → Value → Value → Value → Value → Value → Value → Value → World → Prop) (x2 : Value) (x8 : Value) (x12 : Value) (x13 : Value) (x22 : Value) (x23 : Value) (x24 : Value) (x28 : Value) (x29 : Value) (x30 : Value) (w : World) : Prop :=
  rdC x2 fun l1a l1n l1c => rdI .i64 x8 fun n2 => rdA x12 fun a3 => rdI .i64 x13 fun n4 => rdC x22 fun l5a l5n l5c => rdI .i64 x23 fun n6 => rdI .i64 x24 fun n7 => rdC x28 fun l8a l8n l8c => rdI .i64 x29 fun n9 => rdI .i64 x30 fun n10 => ldI .u16 (a3.add 1) w fun n11 => br (decide ((n4 : Int) ≤ (IntKind.wrap .i64 (n11)))) (br (decide (((IntKind.wrap .i64 (n2 + n4)) : Int) ≥ 0)) (br (decide (((IntKind.wrap .i64 (n2 + n4)) : Int) < (l1n : Int))) (ixS 1 l1a l1n (IntKind.wrap .i64 (n2 + n4)) fun a12 => stc a12 (.bool true) w fun w13 => R (.slice l1a l1n l1c) (.int .i64 n2) (.pointer (some a3)) (.int .i64 (IntKind.wrap .i64 (n4 + 1))) (.slice l5a l5n l5c) (.int .i64 n6) (.int .i64 n7) (.slice l8a l8n l8c) (.int .i64 n9) (.int .i64 n10) w13) (R (.slice l1a l1n l1c) (.int .i64 n2) (.pointer (some a3)) (.int .i64 (IntKind.wrap .i64 (n4 + 1))) (.slice l5a l5n l5c) (.int .i64 n6) (.int .i64 n7) (.slice l8a l8n l8c) (.int .i64 n9) (.int .i64 n10) w)) (R (.slice l1a l1n l1c) (.int .i64 n2) (.pointer (some a3)) (.int .i64 (IntKind.wrap .i64 (n4 + 1))) (.slice l5a l5n l5c) (.int .i64 n6) (.int .i64 n7) (.slice l8a l8n l8c) (.int .i64 n9) (.int .i64 n10) w)) (K4 (.slice l1a l1n l1c) (.int .i64 n2) (.slice l5a l5n l5c) (.int .i64 n6) (.int .i64 n7) (.slice l8a l8n l8c) (.int .i64 n9) (.int .i64 n10) w)
def F58_1 (K4 : Value → Value → Value → Value → Value → Value → Value → Value → World → Prop) : Nat → Value → Value → Value → Value → Value → Value → Value → Value → Value → Value → World → Prop
  | 0 => fun _ _ _ _ _ _ _ _ _ _ _ => False
  | n + 1 => F58_1B (F58_1 K4 n) K4
def F58_1O (Q : Post) (t : Tm) (w : World) : Prop := ∃ n, F58_1 (fun y2 y8 y22 y23 y24 y28 y29 y30 w => ∀ g, rsh [(2, (.one .slc)), (8, (.one (.int .i64))), (22, (.one .slc)), (23, (.one (.int .i64))), (24, (.one (.int .i64))), (28, (.one .slc)), (29, (.one (.int .i64))), (30, (.one (.int .i64)))] (upds g [(2, y2), (8, y8), (22, y22), (23, y23), (24, y24), (28, y28), (29, y29), (30, y30)]) fun t => Q (.exit 4) t w) n (t 2) (t 8) (t 12) (t 13) (t 22) (t 23) (t 24) (t 28) (t 29) (t 30) w
theorem F58_1_step (K4 : Value → Value → Value → Value → Value → Value → Value → Value → World → Prop) (n : Nat) (t : Tm) (w : World) : (F58_1 K4 (n + 1) (t 2) (t 8) (t 12) (t 13) (t 22) (t 23) (t 24) (t 28) (t 29) (t 30) w) = rsh [(2, (.one .slc)), (8, (.one (.int .i64))), (12, (.one .adr)), (13, (.one (.int .i64))), (22, (.one .slc)), (23, (.one (.int .i64))), (24, (.one (.int .i64))), (28, (.one .slc)), (29, (.one (.int .i64))), (30, (.one (.int .i64)))] t (fun t => vc Try.prog (orcOf []) [0, 0, 1, 1, 0, 0, 1, 1, 0, 0, 1, 1, 0, 0, 1, 1, 0, 0, 1, 1] (getAt F58_code [0, 0, 1, 1, 0, 0, 1, 1, 0, 0, 1, 1, 0, 0, 1, 1, 0, 0, 1, 1]) (fun o t w => match o with | .normal => F58_1 K4 n (t 2) (t 8) (t 12) (t 13) (t 22) (t 23) (t 24) (t 28) (t 29) (t 30) w | .exit i => F58_1C K4 (.exit i) t w | .ret => F58_1C K4 .ret t w) t w) := by kernel_rfl
theorem F58_1_ok : ∀ Q t w, F58_1O Q t w → W Try.prog Try.f58.ntmps (getAt F58_code [0, 1, 1, 0, 0, 1, 1, 0, 0, 1, 1, 0, 0, 1, 1, 0, 0, 1, 1]) Q t w := by
  intro Q t w ⟨n, h⟩
  refine (W_loop (P := Try.prog) (b := getAt F58_code [0, 0, 1, 1, 0, 0, 1, 1, 0, 0, 1, 1, 0, 0, 1, 1, 0, 0, 1, 1]) (Q := F58_1C (fun y2 y8 y22 y23 y24 y28 y29 y30 w => ∀ g, rsh [(2, (.one .slc)), (8, (.one (.int .i64))), (22, (.one .slc)), (23, (.one (.int .i64))), (24, (.one (.int .i64))), (28, (.one .slc)), (29, (.one (.int .i64))), (30, (.one (.int .i64)))] (upds g [(2, y2), (8, y8), (22, y22), (23, y23), (24, y24), (28, y28), (29, y29), (30, y30)]) fun t => Q (.exit 4) t w)) (G := fun n t w => F58_1 (fun y2 y8 y22 y23 y24 y28 y29 y30 w => ∀ g, rsh [(2, (.one .slc)), (8, (.one (.int .i64))), (22, (.one .slc)), (23, (.one (.int .i64))), (24, (.one (.int .i64))), (28, (.one .slc)), (29, (.one (.int .i64))), (30, (.one (.int .i64)))] (upds g [(2, y2), (8, y8), (22, y22), (23, y23), (24, y24), (28, y28), (29, y29), (30, y30)]) fun t => Q (.exit 4) t w) n (t 2) (t 8) (t 12) (t 13) (t 22) (t 23) (t 24) (t 28) (t 29) (t 30) w) (fun _ _ h => h) (fun n t w h => ?_) n t w h).mono ?_
  · rw [F58_1_step] at h
    exact vc_sound mixed (orcNil F58_code) _ _ rfl (okC_at F58_code_ok [0, 0, 1, 1, 0, 0, 1, 1, 0, 0, 1, 1, 0, 0, 1, 1, 0, 0, 1, 1]) _ _ _ (rsh_out h)
  · intro o t w q
    cases o with
    | normal => exact q.elim
    | exit i =>
      unfold F58_1C at q
      simp only at q
      split at q
      · rename_i hi
        rw [nbeq] at hi
        subst hi
        exact out_ok [2, 8, 22, 23, 24, 28, 29, 30] q
      · exact q.elim
    | ret => exact q.elim
def F58_2C (K2 : Value → Value → Value → Value → Value → World → Prop) : Post := fun o t w => match o with | .normal => False | .exit i => (match Nat.beq i 2 with | true => K2 (t 2) (t 8) (t 22) (t 23) (t 24) w | false => False) | .ret => False
def F58_2B (R : Value → Value → Value → Value → Value → Value → Value → Value → World → Prop) (K2 : Value → Value → Value → Value → Value → World → Prop) (x2 : Value) (x8 : Value) (x22 : Value) (x23 : Value) (x24 : Value) (x28 : Value) (x29 : Value) (x30 : Value) (w : World) : Prop :=
  rdC x2 fun l1a l1n l1c => rdI .i64 x8 fun n2 => rdC x22 fun l3a l3n l3c => rdI .i64 x23 fun n4 => rdI .i64 x24 fun n5 => rdC x28 fun l6a l6n l6c => rdI .i64 x29 fun n7 => rdI .i64 x30 fun n8 => br (decide ((n8 : Int) < n7)) (ixS 2 l6a l6n n8 fun a9 => ldI .u16 (a9.add 0) w fun n10 => ldI .u16 (a9.add 1) w fun n11 => alc (.cells #[(.int .u16 0), (.int .u16 0)] 44) w fun b12 w13 => stc ((Addr.mk b12 0 none).add 0) (.int .u16 n10) w13 fun w14 => stc ((Addr.mk b12 0 none).add 1) (.int .u16 n11) w14 fun w15 => ldI .u16 ((Addr.mk b12 0 none).add 0) w15 fun n16 => ∃ k28 : Nat, F58_1 (fun y2_16 y8_16 y22_16 y23_16 y24_16 y28_16 y29_16 y30_16 w18 => ∀ _g19 : Tm, rdC y2_16 fun l20a l20n l20c => rdI .i64 y8_16 fun n21 => rdC y22_16 fun l22a l22n l22c => rdI .i64 y23_16 fun n23 => rdI .i64 y24_16 fun n24 => rdC y28_16 fun l25a l25n l25c => rdI .i64 y29_16 fun n26 => rdI .i64 y30_16 fun n27 => R (.slice l20a l20n l20c) (.int .i64 n21) (.slice l22a l22n l22c) (.int .i64 n23) (.int .i64 n24) (.slice l25a l25n l25c) (.int .i64 n26) (.int .i64 (IntKind.wrap .i64 (n27 + 1))) w18) k28 (.slice l1a l1n l1c) (.int .i64 n2) (.pointer (some (Addr.mk b12 0 none))) (.int .i64 (IntKind.wrap .i64 (n16))) (.slice l3a l3n l3c) (.int .i64 n4) (.int .i64 n5) (.slice l6a l6n l6c) (.int .i64 n7) (.int .i64 n8) w15) (K2 (.slice l1a l1n l1c) (.int .i64 n2) (.slice l3a l3n l3c) (.int .i64 n4) (.int .i64 n5) w)
def F58_2 (K2 : Value → Value → Value → Value → Value → World → Prop) : Nat → Value → Value → Value → Value → Value → Value → Value → Value → World → Prop
  | 0 => fun _ _ _ _ _ _ _ _ _ => False
  | n + 1 => F58_2B (F58_2 K2 n) K2
def F58_2O (Q : Post) (t : Tm) (w : World) : Prop := ∃ n, F58_2 (fun y2 y8 y22 y23 y24 w => ∀ g, rsh [(2, (.one .slc)), (8, (.one (.int .i64))), (22, (.one .slc)), (23, (.one (.int .i64))), (24, (.one (.int .i64)))] (upds g [(2, y2), (8, y8), (22, y22), (23, y23), (24, y24)]) fun t => Q (.exit 2) t w) n (t 2) (t 8) (t 22) (t 23) (t 24) (t 28) (t 29) (t 30) w
theorem F58_2_step (K2 : Value → Value → Value → Value → Value → World → Prop) (n : Nat) (t : Tm) (w : World) : (F58_2 K2 (n + 1) (t 2) (t 8) (t 22) (t 23) (t 24) (t 28) (t 29) (t 30) w) = rsh [(2, (.one .slc)), (8, (.one (.int .i64))), (22, (.one .slc)), (23, (.one (.int .i64))), (24, (.one (.int .i64))), (28, (.one .slc)), (29, (.one (.int .i64))), (30, (.one (.int .i64)))] t (fun t => vc Try.prog (orcOf [([0, 1, 1, 0, 0, 1, 1, 0, 0, 1, 1, 0, 0, 1, 1, 0, 0, 1, 1], F58_1O)]) [0, 0, 1, 1, 0, 0, 1, 1, 0, 0, 1, 1] (getAt F58_code [0, 0, 1, 1, 0, 0, 1, 1, 0, 0, 1, 1]) (fun o t w => match o with | .normal => F58_2 K2 n (t 2) (t 8) (t 22) (t 23) (t 24) (t 28) (t 29) (t 30) w | .exit i => F58_2C K2 (.exit i) t w | .ret => F58_2C K2 .ret t w) t w) := by kernel_rfl
theorem F58_2_ok : ∀ Q t w, F58_2O Q t w → W Try.prog Try.f58.ntmps (getAt F58_code [0, 1, 1, 0, 0, 1, 1, 0, 0, 1, 1]) Q t w := by
  intro Q t w ⟨n, h⟩
  refine (W_loop (P := Try.prog) (b := getAt F58_code [0, 0, 1, 1, 0, 0, 1, 1, 0, 0, 1, 1]) (Q := F58_2C (fun y2 y8 y22 y23 y24 w => ∀ g, rsh [(2, (.one .slc)), (8, (.one (.int .i64))), (22, (.one .slc)), (23, (.one (.int .i64))), (24, (.one (.int .i64)))] (upds g [(2, y2), (8, y8), (22, y22), (23, y23), (24, y24)]) fun t => Q (.exit 2) t w)) (G := fun n t w => F58_2 (fun y2 y8 y22 y23 y24 w => ∀ g, rsh [(2, (.one .slc)), (8, (.one (.int .i64))), (22, (.one .slc)), (23, (.one (.int .i64))), (24, (.one (.int .i64)))] (upds g [(2, y2), (8, y8), (22, y22), (23, y23), (24, y24)]) fun t => Q (.exit 2) t w) n (t 2) (t 8) (t 22) (t 23) (t 24) (t 28) (t 29) (t 30) w) (fun _ _ h => h) (fun n t w h => ?_) n t w h).mono ?_
  · rw [F58_2_step] at h
    exact vc_sound mixed (orcCons (π := [0, 1, 1, 0, 0, 1, 1, 0, 0, 1, 1, 0, 0, 1, 1, 0, 0, 1, 1]) F58_1_ok (orcNil F58_code)) _ _ rfl (okC_at F58_code_ok [0, 0, 1, 1, 0, 0, 1, 1, 0, 0, 1, 1]) _ _ _ (rsh_out h)
  · intro o t w q
    cases o with
    | normal => exact q.elim
    | exit i =>
      unfold F58_2C at q
      simp only at q
      split at q
      · rename_i hi
        rw [nbeq] at hi
        subst hi
        exact out_ok [2, 8, 22, 23, 24] q
      · exact q.elim
    | ret => exact q.elim
def F58_3C (K0 : World → Prop) : Post := fun o _ w => match o with | .normal => False | .exit i => (match Nat.beq i 0 with | true => K0  w | false => False) | .ret => False
def F58_3B (R : Value → Value → Value → Value → Value → World → Prop) (K0 : World → Prop) (x2 : Value) (x8 : Value) (x22 : Value) (x23 : Value) (x24 : Value) (w : World) : Prop :=
  rdC x2 fun l1a l1n l1c => rdI .i64 x8 fun n2 => rdC x22 fun l3a l3n l3c => rdI .i64 x23 fun n4 => rdI .i64 x24 fun n5 => br (decide ((n5 : Int) < n4)) (ixS 1 l3a l3n n5 fun a6 => ldC a6 w fun l7a l7n l7c => ∃ k16 : Nat, F58_2 (fun y2_7 y8_7 y22_7 y23_7 y24_7 w9 => ∀ _g10 : Tm, rdC y2_7 fun l11a l11n l11c => rdI .i64 y8_7 fun n12 => rdC y22_7 fun l13a l13n l13c => rdI .i64 y23_7 fun n14 => rdI .i64 y24_7 fun n15 => R (.slice l11a l11n l11c) (.int .i64 n12) (.slice l13a l13n l13c) (.int .i64 n14) (.int .i64 (IntKind.wrap .i64 (n15 + 1))) w9) k16 (.slice l1a l1n l1c) (.int .i64 n2) (.slice l3a l3n l3c) (.int .i64 n4) (.int .i64 n5) (.slice l7a l7n l7c) (.int .i64 (l7n : Int)) (.int .i64 0) w) (K0 w)
def F58_3 (K0 : World → Prop) : Nat → Value → Value → Value → Value → Value → World → Prop
  | 0 => fun _ _ _ _ _ _ => False
  | n + 1 => F58_3B (F58_3 K0 n) K0
def F58_3O (Q : Post) (t : Tm) (w : World) : Prop := ∃ n, F58_3 (fun w => ∀ g, rsh [] (upds g []) fun t => Q (.exit 0) t w) n (t 2) (t 8) (t 22) (t 23) (t 24) w
theorem F58_3_step (K0 : World → Prop) (n : Nat) (t : Tm) (w : World) : (F58_3 K0 (n + 1) (t 2) (t 8) (t 22) (t 23) (t 24) w) = rsh [(2, (.one .slc)), (8, (.one (.int .i64))), (22, (.one .slc)), (23, (.one (.int .i64))), (24, (.one (.int .i64)))] t (fun t => vc Try.prog (orcOf [([0, 1, 1, 0, 0, 1, 1, 0, 0, 1, 1, 0, 0, 1, 1, 0, 0, 1, 1], F58_1O), ([0, 1, 1, 0, 0, 1, 1, 0, 0, 1, 1], F58_2O)]) [0, 0, 1, 1] (getAt F58_code [0, 0, 1, 1]) (fun o t w => match o with | .normal => F58_3 K0 n (t 2) (t 8) (t 22) (t 23) (t 24) w | .exit i => F58_3C K0 (.exit i) t w | .ret => F58_3C K0 .ret t w) t w) := by kernel_rfl
theorem F58_3_ok : ∀ Q t w, F58_3O Q t w → W Try.prog Try.f58.ntmps (getAt F58_code [0, 1, 1]) Q t w := by
  intro Q t w ⟨n, h⟩
  refine (W_loop (P := Try.prog) (b := getAt F58_code [0, 0, 1, 1]) (Q := F58_3C (fun w => ∀ g, rsh [] (upds g []) fun t => Q (.exit 0) t w)) (G := fun n t w => F58_3 (fun w => ∀ g, rsh [] (upds g []) fun t => Q (.exit 0) t w) n (t 2) (t 8) (t 22) (t 23) (t 24) w) (fun _ _ h => h) (fun n t w h => ?_) n t w h).mono ?_
  · rw [F58_3_step] at h
    exact vc_sound mixed (orcCons (π := [0, 1, 1, 0, 0, 1, 1, 0, 0, 1, 1, 0, 0, 1, 1, 0, 0, 1, 1]) F58_1_ok (orcCons (π := [0, 1, 1, 0, 0, 1, 1, 0, 0, 1, 1]) F58_2_ok (orcNil F58_code))) _ _ rfl (okC_at F58_code_ok [0, 0, 1, 1]) _ _ _ (rsh_out h)
  · intro o t w q
    cases o with
    | normal => exact q.elim
    | exit i =>
      unfold F58_3C at q
      simp only at q
      split at q
      · rename_i hi
        rw [nbeq] at hi
        subst hi
        exact out_ok [] q
      · exact q.elim
    | ret => exact q.elim
def F58 (x0 : Value) (x1 : Value) (x2 : Value) (x3 : Value) (w : World) (K : Value → World → Prop) : Prop :=
  rdP x0 fun p1 => rdI .u32 x1 fun n2 => rdC x2 fun l3a l3n l3c => rdC x3 fun l4a l4n l4c => nn p1 fun a5 => ldI .u32 (a5.add 1) w fun n6 => Calls Try.prog 37 #[(.int .u32 n6), (.int .u32 n2)] w fun e8 w7 => ∃ n9, e8 = .returned (.int .i64 n9) ∧ (∃ k13 : Nat, F58_3 (fun w11 => ∀ _g12 : Tm, K (.tuple #[]) w11) k13 (.slice l3a l3n l3c) (.int .i64 (IntKind.wrap .i64 (n9 - 1))) (.slice l4a l4n l4c) (.int .i64 (l4n : Int)) (.int .i64 0) w7)
theorem F58_step (x0 : Value) (x1 : Value) (x2 : Value) (x3 : Value) (w : World) (K : Value → World → Prop) : (F58 x0 x1 x2 x3 w K) = rsh [(0, (.one .ptr)), (1, (.one (.int .u32))), (2, (.one .slc)), (3, (.one .slc))] (args0 #[x0, x1, x2, x3]) (fun t => vc Try.prog (orcOf [([0, 1, 1, 0, 0, 1, 1, 0, 0, 1, 1, 0, 0, 1, 1, 0, 0, 1, 1], F58_1O), ([0, 1, 1, 0, 0, 1, 1, 0, 0, 1, 1], F58_2O), ([0, 1, 1], F58_3O)]) [] F58_code (retQ Try.prog Try.f58 K) t w) := by kernel_rfl
theorem F58_ok {x0 x1 x2 x3 : Value} {w : World} {K : Value → World → Prop} (h : F58 x0 x1 x2 x3 w K) : Calls Try.prog 58 #[x0, x1, x2, x3] w fun e w' => ∃ v, e = .returned v ∧ K v w' := by
  rw [F58_step] at h
  exact calls_of (c := F58_code) mixed Try.func58 rfl (nlt rfl) (vc_sound mixed (orcCons (π := [0, 1, 1, 0, 0, 1, 1, 0, 0, 1, 1, 0, 0, 1, 1, 0, 0, 1, 1]) F58_1_ok (orcCons (π := [0, 1, 1, 0, 0, 1, 1, 0, 0, 1, 1]) F58_2_ok (orcCons (π := [0, 1, 1]) F58_3_ok (orcNil F58_code)))) F58_code [] rfl F58_code_ok _ _ _ (rsh_out h))

/-! (*ropewalk/outbox.entry).open -/
noncomputable def F59_code : Code := Try.f59.body.getD .skip
theorem F59_code_ok : okC Try.prog Try.f59.ntmps F59_code = true := by kernel_rfl
def F59 (x0 : Value) (w : World) (K : Value → World → Prop) : Prop :=
  rdP x0 fun p1 => nn p1 fun a2 => ldI .i64 ((a2.add 0).add 6) w fun n3 => br (n3 == 1) (K (.bool true) w) (nn p1 fun a4 => ldI .i64 ((a4.add 0).add 6) w fun n5 => K (.bool (n5 == 2)) w)
theorem F59_step (x0 : Value) (w : World) (K : Value → World → Prop) : (F59 x0 w K) = rsh [(0, (.one .ptr))] (args0 #[x0]) (fun t => vc Try.prog (orcOf []) [] F59_code (retQ Try.prog Try.f59 K) t w) := by kernel_rfl
theorem F59_ok {x0 : Value} {w : World} {K : Value → World → Prop} (h : F59 x0 w K) : Calls Try.prog 59 #[x0] w fun e w' => ∃ v, e = .returned v ∧ K v w' := by
  rw [F59_step] at h
  exact calls_of (c := F59_code) mixed Try.func59 rfl (nlt rfl) (vc_sound mixed (orcNil F59_code) F59_code [] rfl F59_code_ok _ _ _ (rsh_out h))

/-! (*ropewalk/outbox.entry).bytes -/
noncomputable def F60_code : Code := Try.f60.body.getD .skip
theorem F60_code_ok : okC Try.prog Try.f60.ntmps F60_code = true := by kernel_rfl
def F60 (x0 : Value) (w : World) (K : Value → World → Prop) : Prop :=
  rdP x0 fun p1 => nn p1 fun a2 => ldC ((((a2.add 0).add 7).add 0).add 4) w fun _ l3n _ => K (.int .i64 (l3n : Int)) w
theorem F60_step (x0 : Value) (w : World) (K : Value → World → Prop) : (F60 x0 w K) = rsh [(0, (.one .ptr))] (args0 #[x0]) (fun t => vc Try.prog (orcOf []) [] F60_code (retQ Try.prog Try.f60 K) t w) := by kernel_rfl
theorem F60_ok {x0 : Value} {w : World} {K : Value → World → Prop} (h : F60 x0 w K) : Calls Try.prog 60 #[x0] w fun e w' => ∃ v, e = .returned v ∧ K v w' := by
  rw [F60_step] at h
  exact calls_of (c := F60_code) mixed Try.func60 rfl (nlt rfl) (vc_sound mixed (orcNil F60_code) F60_code [] rfl F60_code_ok _ _ _ (rsh_out h))

/-! slices.Backward[[]*ropewalk/outbox.entry,*ropewalk/outbox.entry] -/
noncomputable def F61_code : Code := Try.f61.body.getD .skip
theorem F61_code_ok : okC Try.prog Try.f61.ntmps F61_code = true := by kernel_rfl
def F61 (x0 : Value) (w : World) (K : Value → World → Prop) : Prop :=
  rdC x0 fun l1a l1n l1c => alc (.cells #[(.slice l1a l1n l1c)] 77) w fun b2 w3 => K (.func (.func 77) #[] #[(.pointer (some (Addr.mk b2 0 none)))]) w3
theorem F61_step (x0 : Value) (w : World) (K : Value → World → Prop) : (F61 x0 w K) = rsh [(0, (.one .slc))] (args0 #[x0]) (fun t => vc Try.prog (orcOf []) [] F61_code (retQ Try.prog Try.f61 K) t w) := by kernel_rfl
theorem F61_ok {x0 : Value} {w : World} {K : Value → World → Prop} (h : F61 x0 w K) : Calls Try.prog 61 #[x0] w fun e w' => ∃ v, e = .returned v ∧ K v w' := by
  rw [F61_step] at h
  exact calls_of (c := F61_code) mixed Try.func61 rfl (nlt rfl) (vc_sound mixed (orcNil F61_code) F61_code [] rfl F61_code_ok _ _ _ (rsh_out h))

/-! ropewalk/serial.off[uint32] -/
noncomputable def F62_code : Code := Try.f62.body.getD .skip
theorem F62_code_ok : okC Try.prog Try.f62.ntmps F62_code = true := by kernel_rfl
def F62 (x0 : Value) (x1 : Value) (w : World) (K : Value → World → Prop) : Prop :=
  rdI .u32 x0 fun n1 => rdI .u32 x1 fun n2 => br (decide (((IntKind.wrap .i64 ((IntKind.wrap .u32 (n2 - n1)))) : Int) ≥ (IntKind.wrap .i64 ((IntKind.wrap .i64 ((IntKind.wrap .u32 (Int.tdiv (bitI .xor .u32 (if IntKind.signed .u32 then -1 else IntKind.max .u32) (IntKind.wrap .u32 (0))) 2)))) + 1)))) (K (.int .i64 (IntKind.wrap .i64 ((IntKind.wrap .i64 ((IntKind.wrap .u32 (n2 - n1)))) - (IntKind.wrap .i64 (2 * (IntKind.wrap .i64 ((IntKind.wrap .i64 ((IntKind.wrap .u32 (Int.tdiv (bitI .xor .u32 (if IntKind.signed .u32 then -1 else IntKind.max .u32) (IntKind.wrap .u32 (0))) 2)))) + 1))))))) w) (K (.int .i64 (IntKind.wrap .i64 ((IntKind.wrap .u32 (n2 - n1))))) w)
theorem F62_step (x0 : Value) (x1 : Value) (w : World) (K : Value → World → Prop) : (F62 x0 x1 w K) = rsh [(0, (.one (.int .u32))), (1, (.one (.int .u32)))] (args0 #[x0, x1]) (fun t => vc Try.prog (orcOf []) [] F62_code (retQ Try.prog Try.f62 K) t w) := by kernel_rfl
theorem F62_ok {x0 x1 : Value} {w : World} {K : Value → World → Prop} (h : F62 x0 x1 w K) : Calls Try.prog 62 #[x0, x1] w fun e w' => ∃ v, e = .returned v ∧ K v w' := by
  rw [F62_step] at h
  exact calls_of (c := F62_code) mixed Try.func62 rfl (nlt rfl) (vc_sound mixed (orcNil F62_code) F62_code [] rfl F62_code_ok _ _ _ (rsh_out h))

/-! slices.IndexFunc[[]*ropewalk/outbox.entry,*ropewalk/outbox.entry] -/
noncomputable def F63_code : Code := Try.f63.body.getD .skip
theorem F63_code_ok : okC Try.prog Try.f63.ntmps F63_code = true := by kernel_rfl
def F63_1C (K0 : World → Prop) (Kr : Value → World → Prop) : Post := fun o t w => match o with | .normal => False | .exit i => (match Nat.beq i 0 with | true => K0  w | false => False) | .ret => Kr (t 4) w
def F63_1B (R : Value → Value → Value → Value → World → Prop) (K0 : World → Prop) (Kr : Value → World → Prop) (x0 : Value) (x1 : Value) (x7 : Value) (x8 : Value) (w : World) : Prop :=
  rdC x0 fun l1a l1n l1c => rdI .i64 x7 fun n2 => rdI .i64 x8 fun n3 => br (decide ((n3 : Int) < n2)) (ixS 1 l1a l1n n3 fun a4 => ldP a4 w fun p5 => callV Try.prog x1 #[(.pointer p5)] w (.one (.one .bool)) fun r7 w6 => ∃ b8, r7 = (.bool b8) ∧ (br b8 (Kr (.int .i64 n3) w6) (R (.slice l1a l1n l1c) x1 (.int .i64 n2) (.int .i64 (IntKind.wrap .i64 (n3 + 1))) w6))) (K0 w)
def F63_1 (K0 : World → Prop) (Kr : Value → World → Prop) : Nat → Value → Value → Value → Value → World → Prop
  | 0 => fun _ _ _ _ _ => False
  | n + 1 => F63_1B (F63_1 K0 Kr n) K0 Kr
def F63_1O (Q : Post) (t : Tm) (w : World) : Prop := ∃ n, F63_1 (fun w => ∀ g, rsh [] (upds g []) fun t => Q (.exit 0) t w) (fun y4 w => ∀ g, rsh [(4, (.one (.int .i64)))] (upds g [(4, y4)]) fun t => Q .ret t w) n (t 0) (t 1) (t 7) (t 8) w
theorem F63_1_step (K0 : World → Prop) (Kr : Value → World → Prop) (n : Nat) (t : Tm) (w : World) : (F63_1 K0 Kr (n + 1) (t 0) (t 1) (t 7) (t 8) w) = rsh [(0, (.one .slc)), (7, (.one (.int .i64))), (8, (.one (.int .i64)))] t (fun t => vc Try.prog (orcOf []) [0, 0, 1, 0, 1] (getAt F63_code [0, 0, 1, 0, 1]) (fun o t w => match o with | .normal => F63_1 K0 Kr n (t 0) (t 1) (t 7) (t 8) w | .exit i => F63_1C K0 Kr (.exit i) t w | .ret => F63_1C K0 Kr .ret t w) t w) := by kernel_rfl
theorem F63_1_ok : ∀ Q t w, F63_1O Q t w → W Try.prog Try.f63.ntmps (getAt F63_code [0, 1, 0, 1]) Q t w := by
  intro Q t w ⟨n, h⟩
  refine (W_loop (P := Try.prog) (b := getAt F63_code [0, 0, 1, 0, 1]) (Q := F63_1C (fun w => ∀ g, rsh [] (upds g []) fun t => Q (.exit 0) t w) (fun y4 w => ∀ g, rsh [(4, (.one (.int .i64)))] (upds g [(4, y4)]) fun t => Q .ret t w)) (G := fun n t w => F63_1 (fun w => ∀ g, rsh [] (upds g []) fun t => Q (.exit 0) t w) (fun y4 w => ∀ g, rsh [(4, (.one (.int .i64)))] (upds g [(4, y4)]) fun t => Q .ret t w) n (t 0) (t 1) (t 7) (t 8) w) (fun _ _ h => h) (fun n t w h => ?_) n t w h).mono ?_
  · rw [F63_1_step] at h
    exact vc_sound mixed (orcNil F63_code) _ _ rfl (okC_at F63_code_ok [0, 0, 1, 0, 1]) _ _ _ (rsh_out h)
  · intro o t w q
    cases o with
    | normal => exact q.elim
    | exit i =>
      unfold F63_1C at q
      simp only at q
      split at q
      · rename_i hi
        rw [nbeq] at hi
        subst hi
        exact out_ok [] q
      · exact q.elim
    | ret => exact out_ok [4] q
def F63 (x0 : Value) (x1 : Value) (w : World) (K : Value → World → Prop) : Prop :=
  rdC x0 fun l1a l1n l1c => ∃ k9 : Nat, F63_1 (fun w3 => ∀ _g4 : Tm, K (.int .i64 (-1)) w3) (fun y4_4 w6 => ∀ _g7 : Tm, rdI .i64 y4_4 fun n8 => K (.int .i64 n8) w6) k9 (.slice l1a l1n l1c) x1 (.int .i64 (l1n : Int)) (.int .i64 0) w
theorem F63_step (x0 : Value) (x1 : Value) (w : World) (K : Value → World → Prop) : (F63 x0 x1 w K) = rsh [(0, (.one .slc))] (args0 #[x0, x1]) (fun t => vc Try.prog (orcOf [([0, 1, 0, 1], F63_1O)]) [] F63_code (retQ Try.prog Try.f63 K) t w) := by kernel_rfl
theorem F63_ok {x0 x1 : Value} {w : World} {K : Value → World → Prop} (h : F63 x0 x1 w K) : Calls Try.prog 63 #[x0, x1] w fun e w' => ∃ v, e = .returned v ∧ K v w' := by
  rw [F63_step] at h
  exact calls_of (c := F63_code) mixed Try.func63 rfl (nlt rfl) (vc_sound mixed (orcCons (π := [0, 1, 0, 1]) F63_1_ok (orcNil F63_code)) F63_code [] rfl F63_code_ok _ _ _ (rsh_out h))

/-! ropewalk/outbox.on$1 -/
noncomputable def F64_code : Code := Try.f64.body.getD .skip
theorem F64_code_ok : okC Try.prog Try.f64.ntmps F64_code = true := by kernel_rfl
def F64 (x0 : Value) (x1 : Value) (w : World) (K : Value → World → Prop) : Prop :=
  rdP x0 fun p1 => rdA x1 fun a2 => drw w fun w3 => Calls Try.prog 55 #[(.pointer p1)] w3 fun e5 w4 => ∃ b6, e5 = .returned (.bool b6) ∧ (br b6 (nn p1 fun a7 => ldI .i64 ((a7.add 0).add 1) w4 fun n8 => ldI .i64 a2 w4 fun n9 => K (.bool (n8 == n9)) w4) (K (.bool false) w4))
theorem F64_step (x0 : Value) (x1 : Value) (w : World) (K : Value → World → Prop) : (F64 x0 x1 w K) = rsh [(0, (.one .ptr)), (1, (.one .adr))] (args0 #[x0, x1]) (fun t => vc Try.prog (orcOf []) [] F64_code (retQ Try.prog Try.f64 K) t w) := by kernel_rfl
theorem F64_ok {x0 x1 : Value} {w : World} {K : Value → World → Prop} (h : F64 x0 x1 w K) : Calls Try.prog 64 #[x0, x1] w fun e w' => ∃ v, e = .returned v ∧ K v w' := by
  rw [F64_step] at h
  exact calls_of (c := F64_code) mixed Try.func64 rfl (nlt rfl) (vc_sound mixed (orcNil F64_code) F64_code [] rfl F64_code_ok _ _ _ (rsh_out h))

/-! (*ropewalk/ropewalkref17.Box).has -/
noncomputable def F65_code : Code := Try.f65.body.getD .skip
theorem F65_code_ok : okC Try.prog Try.f65.ntmps F65_code = true := by kernel_rfl
def F65 (x0 : Value) (x1 : Value) (w : World) (K : Value → World → Prop) : Prop :=
  rdP x0 fun p1 => rdI .i64 x1 fun n2 => br (decide ((n2 : Int) ≥ 0)) (nn p1 fun a3 => ldI .i64 (a3.add 0) w fun n4 => K (.bool (decide ((n2 : Int) < n4))) w) (K (.bool false) w)
theorem F65_step (x0 : Value) (x1 : Value) (w : World) (K : Value → World → Prop) : (F65 x0 x1 w K) = rsh [(0, (.one .ptr)), (1, (.one (.int .i64)))] (args0 #[x0, x1]) (fun t => vc Try.prog (orcOf []) [] F65_code (retQ Try.prog Try.f65 K) t w) := by kernel_rfl
theorem F65_ok {x0 x1 : Value} {w : World} {K : Value → World → Prop} (h : F65 x0 x1 w K) : Calls Try.prog 65 #[x0, x1] w fun e w' => ∃ v, e = .returned v ∧ K v w' := by
  rw [F65_step] at h
  exact calls_of (c := F65_code) mixed Try.func65 rfl (nlt rfl) (vc_sound mixed (orcNil F65_code) F65_code [] rfl F65_code_ok _ _ _ (rsh_out h))

/-! ropewalk/ropewalkref17.time -/
noncomputable def F66_code : Code := Try.f66.body.getD .skip
theorem F66_code_ok : okC Try.prog Try.f66.ntmps F66_code = true := by kernel_rfl
def F66 (x0 : Value) (w : World) (K : Value → World → Prop) : Prop :=
  rdI .i64 x0 fun n1 => br (decide ((n1 : Int) ≥ 0)) (K (.bool (decide ((n1 : Int) ≤ 1099511627776))) w) (K (.bool false) w)
theorem F66_step (x0 : Value) (w : World) (K : Value → World → Prop) : (F66 x0 w K) = rsh [(0, (.one (.int .i64)))] (args0 #[x0]) (fun t => vc Try.prog (orcOf []) [] F66_code (retQ Try.prog Try.f66 K) t w) := by kernel_rfl
theorem F66_ok {x0 : Value} {w : World} {K : Value → World → Prop} (h : F66 x0 w K) : Calls Try.prog 66 #[x0] w fun e w' => ∃ v, e = .returned v ∧ K v w' := by
  rw [F66_step] at h
  exact calls_of (c := F66_code) mixed Try.func66 rfl (nlt rfl) (vc_sound mixed (orcNil F66_code) F66_code [] rfl F66_code_ok _ _ _ (rsh_out h))

/-! ropewalk/ropewalkref17.order -/
noncomputable def F67_code : Code := Try.f67.body.getD .skip
theorem F67_code_ok : okC Try.prog Try.f67.ntmps F67_code = true := by kernel_rfl
def F67_1C (K0 : World → Prop) (Kr : Value → World → Prop) : Post := fun o t w => match o with | .normal => False | .exit i => (match Nat.beq i 0 with | true => K0  w | false => False) | .ret => Kr (t 2) w
def F67_1B (R : Value → Value → World → Prop) (K0 : World → Prop) (Kr : Value → World → Prop) (x0 : Value) (x3 : Value) (w : World) : Prop :=
  rdC x0 fun l1a l1n l1c => rdI .i64 x3 fun n2 => br (decide ((n2 : Int) < (l1n : Int))) (drw w fun w3 => ixS 2 l1a l1n n2 fun a4 => ldI .u16 (a4.add 0) w3 fun n5 => br (n5 == 0) (Kr (.bool false) w3) (ixS 2 l1a l1n n2 fun a6 => ldI .u16 (a6.add 1) w3 fun n7 => ixS 2 l1a l1n n2 fun a8 => ldI .u16 (a8.add 0) w3 fun n9 => br (decide ((n7 : Int) < n9)) (Kr (.bool false) w3) (R (.slice l1a l1n l1c) (.int .i64 (IntKind.wrap .i64 (n2 + 1))) w3))) (K0 w)
def F67_1 (K0 : World → Prop) (Kr : Value → World → Prop) : Nat → Value → Value → World → Prop
  | 0 => fun _ _ _ => False
  | n + 1 => F67_1B (F67_1 K0 Kr n) K0 Kr
def F67_1O (Q : Post) (t : Tm) (w : World) : Prop := ∃ n, F67_1 (fun w => ∀ g, rsh [] (upds g []) fun t => Q (.exit 0) t w) (fun y2 w => ∀ g, rsh [(2, (.one .bool))] (upds g [(2, y2)]) fun t => Q .ret t w) n (t 0) (t 3) w
theorem F67_1_step (K0 : World → Prop) (Kr : Value → World → Prop) (n : Nat) (t : Tm) (w : World) : (F67_1 K0 Kr (n + 1) (t 0) (t 3) w) = rsh [(0, (.one .slc)), (3, (.one (.int .i64)))] t (fun t => vc Try.prog (orcOf []) [0, 0, 1, 0, 1] (getAt F67_code [0, 0, 1, 0, 1]) (fun o t w => match o with | .normal => F67_1 K0 Kr n (t 0) (t 3) w | .exit i => F67_1C K0 Kr (.exit i) t w | .ret => F67_1C K0 Kr .ret t w) t w) := by kernel_rfl
theorem F67_1_ok : ∀ Q t w, F67_1O Q t w → W Try.prog Try.f67.ntmps (getAt F67_code [0, 1, 0, 1]) Q t w := by
  intro Q t w ⟨n, h⟩
  refine (W_loop (P := Try.prog) (b := getAt F67_code [0, 0, 1, 0, 1]) (Q := F67_1C (fun w => ∀ g, rsh [] (upds g []) fun t => Q (.exit 0) t w) (fun y2 w => ∀ g, rsh [(2, (.one .bool))] (upds g [(2, y2)]) fun t => Q .ret t w)) (G := fun n t w => F67_1 (fun w => ∀ g, rsh [] (upds g []) fun t => Q (.exit 0) t w) (fun y2 w => ∀ g, rsh [(2, (.one .bool))] (upds g [(2, y2)]) fun t => Q .ret t w) n (t 0) (t 3) w) (fun _ _ h => h) (fun n t w h => ?_) n t w h).mono ?_
  · rw [F67_1_step] at h
    exact vc_sound mixed (orcNil F67_code) _ _ rfl (okC_at F67_code_ok [0, 0, 1, 0, 1]) _ _ _ (rsh_out h)
  · intro o t w q
    cases o with
    | normal => exact q.elim
    | exit i =>
      unfold F67_1C at q
      simp only at q
      split at q
      · rename_i hi
        rw [nbeq] at hi
        subst hi
        exact out_ok [] q
      · exact q.elim
    | ret => exact out_ok [2] q
def F67 (x0 : Value) (w : World) (K : Value → World → Prop) : Prop :=
  rdC x0 fun l1a l1n l1c => ∃ k9 : Nat, F67_1 (fun w3 => ∀ _g4 : Tm, K (.bool true) w3) (fun y2_4 w6 => ∀ _g7 : Tm, rdB y2_4 fun b8 => K (.bool b8) w6) k9 (.slice l1a l1n l1c) (.int .i64 0) w
theorem F67_step (x0 : Value) (w : World) (K : Value → World → Prop) : (F67 x0 w K) = rsh [(0, (.one .slc))] (args0 #[x0]) (fun t => vc Try.prog (orcOf [([0, 1, 0, 1], F67_1O)]) [] F67_code (retQ Try.prog Try.f67 K) t w) := by kernel_rfl
theorem F67_ok {x0 : Value} {w : World} {K : Value → World → Prop} (h : F67 x0 w K) : Calls Try.prog 67 #[x0] w fun e w' => ∃ v, e = .returned v ∧ K v w' := by
  rw [F67_step] at h
  exact calls_of (c := F67_code) mixed Try.func67 rfl (nlt rfl) (vc_sound mixed (orcCons (π := [0, 1, 0, 1]) F67_1_ok (orcNil F67_code)) F67_code [] rfl F67_code_ok _ _ _ (rsh_out h))

/-! ropewalk/ropewalkref17.nr -/
noncomputable def F68_code : Code := Try.f68.body.getD .skip
theorem F68_code_ok : okC Try.prog Try.f68.ntmps F68_code = true := by kernel_rfl
def F68 (x0 : Value) (w : World) (K : Value → World → Prop) : Prop :=
  exR30 fun s1 => x0 = s1.v ∧ (alc (.cells s1.c 31) w fun b2 w3 => ldI .u8 ((Addr.mk b2 0 none).add 0) w3 fun n4 => br (n4 != 16) (K (.slice none 0 0) w3) (ldC ((Addr.mk b2 0 none).add 11) w3 fun l5a l5n l5c => K (.slice l5a l5n l5c) w3))
theorem F68_step (x0 : Value) (w : World) (K : Value → World → Prop) : (F68 x0 w K) = rsh [(0, (.agg [(.int .u8), (.int .u8), (.int .u32), (.int .u16), (.int .u16), (.int .u32), (.int .u32), (.int .u32), (.int .u16), (.int .u16), .slc, .slc, .slc, .slc, .slc]))] (args0 #[x0]) (fun t => vc Try.prog (orcOf []) [] F68_code (retQ Try.prog Try.f68 K) t w) := by kernel_rfl
theorem F68_ok {x0 : Value} {w : World} {K : Value → World → Prop} (h : F68 x0 w K) : Calls Try.prog 68 #[x0] w fun e w' => ∃ v, e = .returned v ∧ K v w' := by
  rw [F68_step] at h
  exact calls_of (c := F68_code) mixed Try.func68 rfl (nlt rfl) (vc_sound mixed (orcNil F68_code) F68_code [] rfl F68_code_ok _ _ _ (rsh_out h))

/-! ropewalk/ropewalkref01.Less -/
noncomputable def F69_code : Code := Try.f69.body.getD .skip
theorem F69_code_ok : okC Try.prog Try.f69.ntmps F69_code = true := by kernel_rfl
def F69 (x0 : Value) (x1 : Value) (w : World) (K : Value → World → Prop) : Prop :=
  rdI .u32 x0 fun n1 => rdI .u32 x1 fun n2 => Calls Try.prog 76 #[(.int .u32 n1), (.int .u32 n2)] w fun e4 w3 => ∃ n5, e4 = .returned (.int .i64 n5) ∧ (K (.bool (decide ((n5 : Int) > 0))) w3)
theorem F69_step (x0 : Value) (x1 : Value) (w : World) (K : Value → World → Prop) : (F69 x0 x1 w K) = rsh [(0, (.one (.int .u32))), (1, (.one (.int .u32)))] (args0 #[x0, x1]) (fun t => vc Try.prog (orcOf []) [] F69_code (retQ Try.prog Try.f69 K) t w) := by kernel_rfl
theorem F69_ok {x0 x1 : Value} {w : World} {K : Value → World → Prop} (h : F69 x0 x1 w K) : Calls Try.prog 69 #[x0, x1] w fun e w' => ∃ v, e = .returned v ∧ K v w' := by
  rw [F69_step] at h
  exact calls_of (c := F69_code) mixed Try.func69 rfl (nlt rfl) (vc_sound mixed (orcNil F69_code) F69_code [] rfl F69_code_ok _ _ _ (rsh_out h))

/-! (*ropewalk/ropewalkref17.Box).past -/
noncomputable def F70_code : Code := Try.f70.body.getD .skip
theorem F70_code_ok : okC Try.prog Try.f70.ntmps F70_code = true := by kernel_rfl
def F70_1C (K0 : Value → Value → World → Prop) (Kr : Value → World → Prop) : Post := fun o t w => match o with | .normal => False | .exit i => (match Nat.beq i 0 with | true => K0 (t 0) (t 4) w | false => False) | .ret => Kr (t 6) w
def F70_1B (R : Value → Value → Value → Value → World → Prop) (K0 : Value → Value → World → Prop) (Kr : Value → World → Prop) (x0 : Value) (x2 : Value) (x4 : Value) (x7 : Value) (w : World) : Prop :=
  rdP x0 fun p1 => rdC x2 fun l2a l2n l2c => rdA x4 fun a3 => rdI .i64 x7 fun n4 => br (decide ((n4 : Int) < (l2n : Int))) (drw w fun w5 => ∃ w6 : World, Pres w6 w5 ∧ (ldI .u32 (a3.add 2) w6 fun n7 => ixS 2 l2a l2n n4 fun a8 => ldI .u16 (a8.add 1) w6 fun n9 => Calls Try.prog 48 #[(.pointer p1)] w5 fun e11 w10 => ∃ n12, e11 = .returned (.int .u32 n12) ∧ (Pres w6 w10 ∧ (Calls Try.prog 21 #[(.int .u32 n7), (.int .u32 (IntKind.wrap .u32 (n9)))] w10 fun e14 w13 => ∃ n15, e14 = .returned (.int .u32 n15) ∧ (Calls Try.prog 76 #[(.int .u32 n12), (.int .u32 n15)] w13 fun e17 w16 => ∃ n18, e17 = .returned (.int .i64 n18) ∧ (br (decide ((n18 : Int) ≥ 0)) (Kr (.bool true) w16) (R (.pointer p1) (.slice l2a l2n l2c) (.pointer (some a3)) (.int .i64 (IntKind.wrap .i64 (n4 + 1))) w16))))))) (K0 (.pointer p1) (.pointer (some a3)) w)
def F70_1 (K0 : Value → Value → World → Prop) (Kr : Value → World → Prop) : Nat → Value → Value → Value → Value → World → Prop
  | 0 => fun _ _ _ _ _ => False
  | n + 1 => F70_1B (F70_1 K0 Kr n) K0 Kr
def F70_1O (Q : Post) (t : Tm) (w : World) : Prop := ∃ n, F70_1 (fun y0 y4 w => ∀ g, rsh [(0, (.one .ptr)), (4, (.one .adr))] (upds g [(0, y0), (4, y4)]) fun t => Q (.exit 0) t w) (fun y6 w => ∀ g, rsh [(6, (.one .bool))] (upds g [(6, y6)]) fun t => Q .ret t w) n (t 0) (t 2) (t 4) (t 7) w
theorem F70_1_step (K0 : Value → Value → World → Prop) (Kr : Value → World → Prop) (n : Nat) (t : Tm) (w : World) : (F70_1 K0 Kr (n + 1) (t 0) (t 2) (t 4) (t 7) w) = rsh [(0, (.one .ptr)), (2, (.one .slc)), (4, (.one .adr)), (7, (.one (.int .i64)))] t (fun t => vc Try.prog (orcOf []) [0, 0, 1, 0, 1] (getAt F70_code [0, 0, 1, 0, 1]) (fun o t w => match o with | .normal => F70_1 K0 Kr n (t 0) (t 2) (t 4) (t 7) w | .exit i => F70_1C K0 Kr (.exit i) t w | .ret => F70_1C K0 Kr .ret t w) t w) := by kernel_rfl
theorem F70_1_ok : ∀ Q t w, F70_1O Q t w → W Try.prog Try.f70.ntmps (getAt F70_code [0, 1, 0, 1]) Q t w := by
  intro Q t w ⟨n, h⟩
  refine (W_loop (P := Try.prog) (b := getAt F70_code [0, 0, 1, 0, 1]) (Q := F70_1C (fun y0 y4 w => ∀ g, rsh [(0, (.one .ptr)), (4, (.one .adr))] (upds g [(0, y0), (4, y4)]) fun t => Q (.exit 0) t w) (fun y6 w => ∀ g, rsh [(6, (.one .bool))] (upds g [(6, y6)]) fun t => Q .ret t w)) (G := fun n t w => F70_1 (fun y0 y4 w => ∀ g, rsh [(0, (.one .ptr)), (4, (.one .adr))] (upds g [(0, y0), (4, y4)]) fun t => Q (.exit 0) t w) (fun y6 w => ∀ g, rsh [(6, (.one .bool))] (upds g [(6, y6)]) fun t => Q .ret t w) n (t 0) (t 2) (t 4) (t 7) w) (fun _ _ h => h) (fun n t w h => ?_) n t w h).mono ?_
  · rw [F70_1_step] at h
    exact vc_sound mixed (orcNil F70_code) _ _ rfl (okC_at F70_code_ok [0, 0, 1, 0, 1]) _ _ _ (rsh_out h)
  · intro o t w q
    cases o with
    | normal => exact q.elim
    | exit i =>
      unfold F70_1C at q
      simp only at q
      split at q
      · rename_i hi
        rw [nbeq] at hi
        subst hi
        exact out_ok [0, 4] q
      · exact q.elim
    | ret => exact out_ok [6] q
def F70 (x0 : Value) (x1 : Value) (x2 : Value) (w : World) (K : Value → World → Prop) : Prop :=
  rdP x0 fun p1 => exR30 fun s2 => x1 = s2.v ∧ (rdC x2 fun l3a l3n l3c => alc (.cells s2.c 31) w fun b4 w5 => ∃ k24 : Nat, F70_1 (fun y0_5 y4_5 w7 => ∀ _g8 : Tm, rdP y0_5 fun p9 => rdA y4_5 fun a10 => drw w7 fun w11 => ∃ w12 : World, Pres w12 w11 ∧ (ldI .u32 (a10.add 2) w12 fun n13 => Calls Try.prog 48 #[(.pointer p9)] w11 fun e15 w14 => ∃ n16, e15 = .returned (.int .u32 n16) ∧ (Pres w12 w14 ∧ (Calls Try.prog 76 #[(.int .u32 n16), (.int .u32 n13)] w14 fun e18 w17 => ∃ n19, e18 = .returned (.int .i64 n19) ∧ (K (.bool (decide ((n19 : Int) ≥ 0))) w17))))) (fun y6_19 w21 => ∀ _g22 : Tm, rdB y6_19 fun b23 => K (.bool b23) w21) k24 (.pointer p1) (.slice l3a l3n l3c) (.pointer (some (Addr.mk b4 0 none))) (.int .i64 0) w5)
theorem F70_step (x0 : Value) (x1 : Value) (x2 : Value) (w : World) (K : Value → World → Prop) : (F70 x0 x1 x2 w K) = rsh [(0, (.one .ptr)), (1, (.agg [(.int .u8), (.int .u8), (.int .u32), (.int .u16), (.int .u16), (.int .u32), (.int .u32), (.int .u32), (.int .u16), (.int .u16), .slc, .slc, .slc, .slc, .slc])), (2, (.one .slc))] (args0 #[x0, x1, x2]) (fun t => vc Try.prog (orcOf [([0, 1, 0, 1], F70_1O)]) [] F70_code (retQ Try.prog Try.f70 K) t w) := by kernel_rfl
theorem F70_ok {x0 x1 x2 : Value} {w : World} {K : Value → World → Prop} (h : F70 x0 x1 x2 w K) : Calls Try.prog 70 #[x0, x1, x2] w fun e w' => ∃ v, e = .returned v ∧ K v w' := by
  rw [F70_step] at h
  exact calls_of (c := F70_code) mixed Try.func70 rfl (nlt rfl) (vc_sound mixed (orcCons (π := [0, 1, 0, 1]) F70_1_ok (orcNil F70_code)) F70_code [] rfl F70_code_ok _ _ _ (rsh_out h))

/-! (*ropewalk/ropewalkref17.Box).acked -/
noncomputable def F71_code : Code := Try.f71.body.getD .skip
theorem F71_code_ok : okC Try.prog Try.f71.ntmps F71_code = true := by kernel_rfl
def F71_1C (K1 : Value → Value → Value → Value → Value → Value → Value → Value → World → Prop) (Kn : Value → Value → Value → Value → Value → Value → Value → Value → World → Prop) : Post := fun o t w => match o with | .normal => Kn (t 0) (t 2) (t 3) (t 5) (t 8) (t 9) (t 10) (t 11) w | .exit i => (match Nat.beq i 1 with | true => K1 (t 0) (t 2) (t 3) (t 5) (t 8) (t 9) (t 10) (t 11) w | false => False) | .ret => False
def F71_1 (K1 : Value → Value → Value → Value → Value → Value → Value → Value → World → Prop) (Kn : Value → Value → Value → Value → Value → Value → Value → Value → World → Prop) (x0 : Value) (x2 : Value) (x3 : Value) (x5 : Value) (x8 : Value) (x9 : Value) (x11 : Value) (x12 : Value) (x13 : Value) (w : World) : Prop :=
  rdP x0 fun p1 => rdI .i64 x2 fun n2 => rdI .i64 x3 fun n3 => rdA x5 fun a4 => rdA x8 fun a5 => rdA x9 fun a6 => rdI .i64 x11 fun n7 => rdA x12 fun a8 => rdB x13 fun b9 => br (!b9) (K1 (.pointer p1) (.int .i64 n2) (.int .i64 n3) (.pointer (some a4)) (.pointer (some a5)) (.pointer (some a6)) (.bool false) (.int .i64 n7) w) (drw w fun w10 => ∃ w11 : World, Pres w11 w10 ∧ (ldI .i64 (a6.add 0) w11 fun n12 => ldR57 a8 w10 fun s13 => Calls Try.prog 74 #[s13.v] w10 fun e15 w14 => ∃ n16, e15 = .returned (.int .i64 n16) ∧ (Pres w11 w14 ∧ (stc (a6.add 0) (.int .i64 (IntKind.wrap .i64 (n12 + n16))) w14 fun w17 => ldI .i64 (a8.add 2) w17 fun n18 => br (n18 == 1) (ldI .i64 (a8.add 3) w17 fun n19 => stc (a6.add 2) (.int .i64 (IntKind.wrap .i64 (n3 - n19))) w17 fun w20 => ldI .i64 (a6.add 2) w20 fun n21 => br (decide ((n21 : Int) < 0)) (stc (a6.add 2) (.int .i64 0) w20 fun w22 => Kn (.pointer p1) (.int .i64 n2) (.int .i64 n3) (.pointer (some a4)) (.pointer (some a5)) (.pointer (some a6)) (.bool false) (.int .i64 n7) w22) (Kn (.pointer p1) (.int .i64 n2) (.int .i64 n3) (.pointer (some a4)) (.pointer (some a5)) (.pointer (some a6)) (.bool false) (.int .i64 n7) w20)) (Kn (.pointer p1) (.int .i64 n2) (.int .i64 n3) (.pointer (some a4)) (.pointer (some a5)) (.pointer (some a6)) (.bool false) (.int .i64 n7) w17)))))
def F71_1O (Q : Post) (t : Tm) (w : World) : Prop := F71_1 (fun y0 y2 y3 y5 y8 y9 y10 y11 w => ∀ g, rsh [(0, (.one .ptr)), (2, (.one (.int .i64))), (3, (.one (.int .i64))), (5, (.one .adr)), (8, (.one .adr)), (9, (.one .adr)), (10, (.one .bool)), (11, (.one (.int .i64)))] (upds g [(0, y0), (2, y2), (3, y3), (5, y5), (8, y8), (9, y9), (10, y10), (11, y11)]) fun t => Q (.exit 1) t w) (fun y0 y2 y3 y5 y8 y9 y10 y11 w => ∀ g, rsh [(0, (.one .ptr)), (2, (.one (.int .i64))), (3, (.one (.int .i64))), (5, (.one .adr)), (8, (.one .adr)), (9, (.one .adr)), (10, (.one .bool)), (11, (.one (.int .i64)))] (upds g [(0, y0), (2, y2), (3, y3), (5, y5), (8, y8), (9, y9), (10, y10), (11, y11)]) fun t => Q .normal t w) (t 0) (t 2) (t 3) (t 5) (t 8) (t 9) (t 11) (t 12) (t 13) w
theorem F71_1_step (K1 : Value → Value → Value → Value → Value → Value → Value → Value → World → Prop) (Kn : Value → Value → Value → Value → Value → Value → Value → Value → World → Prop) (t : Tm) (w : World) : (F71_1 K1 Kn (t 0) (t 2) (t 3) (t 5) (t 8) (t 9) (t 11) (t 12) (t 13) w) = rsh [(0, (.one .ptr)), (2, (.one (.int .i64))), (3, (.one (.int .i64))), (5, (.one .adr)), (8, (.one .adr)), (9, (.one .adr)), (11, (.one (.int .i64))), (12, (.one .adr)), (13, (.one .bool))] t (fun t => vc Try.prog (orcOf []) [1, 1, 1, 1, 0, 0, 1, 0, 0, 1, 0, 1, 1, 1] (getAt F71_code [1, 1, 1, 1, 0, 0, 1, 0, 0, 1, 0, 1, 1, 1]) (F71_1C K1 Kn) t w) := by kernel_rfl
theorem F71_1_ok : ∀ Q t w, F71_1O Q t w → W Try.prog Try.f71.ntmps (getAt F71_code [1, 1, 1, 1, 0, 0, 1, 0, 0, 1, 0, 1, 1, 1]) Q t w := by
  intro Q t w h
  unfold F71_1O at h
  rw [F71_1_step] at h
  refine (vc_sound mixed (orcNil F71_code) _ _ rfl (okC_at F71_code_ok [1, 1, 1, 1, 0, 0, 1, 0, 0, 1, 0, 1, 1, 1]) _ _ _ (rsh_out h)).mono ?_
  intro o t w q
  cases o with
  | normal => exact out_ok [0, 2, 3, 5, 8, 9, 10, 11] q
  | exit i =>
      unfold F71_1C at q
      simp only at q
      split at q
      · rename_i hi
        rw [nbeq] at hi
        subst hi
        exact out_ok [0, 2, 3, 5, 8, 9, 10, 11] q
      · exact q.elim
  | ret => exact q.elim
def F71_2C (K1 : Value → Value → Value → Value → Value → Value → Value → Value → World → Prop) (Kn : Value → Value → Value → Value → Value → Value → Value → Value → World → Prop) : Post := fun o t w => match o with | .normal => Kn (t 0) (t 2) (t 3) (t 5) (t 8) (t 9) (t 10) (t 11) w | .exit i => (match Nat.beq i 1 with | true => K1 (t 0) (t 2) (t 3) (t 5) (t 8) (t 9) (t 10) (t 11) w | false => False) | .ret => False
def F71_2 (K1 : Value → Value → Value → Value → Value → Value → Value → Value → World → Prop) (Kn : Value → Value → Value → Value → Value → Value → Value → Value → World → Prop) (x0 : Value) (x2 : Value) (x3 : Value) (x5 : Value) (x8 : Value) (x9 : Value) (x10 : Value) (x11 : Value) (x12 : Value) (x13 : Value) (w : World) : Prop :=
  rdP x0 fun p1 => rdI .i64 x2 fun n2 => rdI .i64 x3 fun n3 => rdA x5 fun a4 => rdA x8 fun a5 => rdA x9 fun a6 => rdB x10 fun b7 => rdI .i64 x11 fun n8 => rdA x12 fun a9 => rdB x13 fun b10 => br b7 (stc (a6.add 1) (.bool b10) w fun w11 => F71_1 (fun y0_11 y2_11 y3_11 y5_11 y8_11 y9_11 y10_11 y11_11 w13 => ∀ _g14 : Tm, rdP y0_11 fun p15 => rdI .i64 y2_11 fun n16 => rdI .i64 y3_11 fun n17 => rdA y5_11 fun a18 => rdA y8_11 fun a19 => rdA y9_11 fun a20 => rdB y10_11 fun b21 => rdI .i64 y11_11 fun n22 => K1 (.pointer p15) (.int .i64 n16) (.int .i64 n17) (.pointer (some a18)) (.pointer (some a19)) (.pointer (some a20)) (.bool b21) (.int .i64 n22) w13) (fun y0_22 y2_22 y3_22 y5_22 y8_22 y9_22 y10_22 y11_22 w24 => ∀ _g25 : Tm, rdP y0_22 fun p26 => rdI .i64 y2_22 fun n27 => rdI .i64 y3_22 fun n28 => rdA y5_22 fun a29 => rdA y8_22 fun a30 => rdA y9_22 fun a31 => rdB y10_22 fun b32 => rdI .i64 y11_22 fun n33 => Kn (.pointer p26) (.int .i64 n27) (.int .i64 n28) (.pointer (some a29)) (.pointer (some a30)) (.pointer (some a31)) (.bool b32) (.int .i64 n33) w24) (.pointer p1) (.int .i64 n2) (.int .i64 n3) (.pointer (some a4)) (.pointer (some a5)) (.pointer (some a6)) (.int .i64 n8) (.pointer (some a9)) (.bool b10) w11) (F71_1 (fun y0_33 y2_33 y3_33 y5_33 y8_33 y9_33 y10_33 y11_33 w35 => ∀ _g36 : Tm, rdP y0_33 fun p37 => rdI .i64 y2_33 fun n38 => rdI .i64 y3_33 fun n39 => rdA y5_33 fun a40 => rdA y8_33 fun a41 => rdA y9_33 fun a42 => rdB y10_33 fun b43 => rdI .i64 y11_33 fun n44 => K1 (.pointer p37) (.int .i64 n38) (.int .i64 n39) (.pointer (some a40)) (.pointer (some a41)) (.pointer (some a42)) (.bool b43) (.int .i64 n44) w35) (fun y0_44 y2_44 y3_44 y5_44 y8_44 y9_44 y10_44 y11_44 w46 => ∀ _g47 : Tm, rdP y0_44 fun p48 => rdI .i64 y2_44 fun n49 => rdI .i64 y3_44 fun n50 => rdA y5_44 fun a51 => rdA y8_44 fun a52 => rdA y9_44 fun a53 => rdB y10_44 fun b54 => rdI .i64 y11_44 fun n55 => Kn (.pointer p48) (.int .i64 n49) (.int .i64 n50) (.pointer (some a51)) (.pointer (some a52)) (.pointer (some a53)) (.bool b54) (.int .i64 n55) w46) (.pointer p1) (.int .i64 n2) (.int .i64 n3) (.pointer (some a4)) (.pointer (some a5)) (.pointer (some a6)) (.int .i64 n8) (.pointer (some a9)) (.bool b10) w)
def F71_2O (Q : Post) (t : Tm) (w : World) : Prop := F71_2 (fun y0 y2 y3 y5 y8 y9 y10 y11 w => ∀ g, rsh [(0, (.one .ptr)), (2, (.one (.int .i64))), (3, (.one (.int .i64))), (5, (.one .adr)), (8, (.one .adr)), (9, (.one .adr)), (10, (.one .bool)), (11, (.one (.int .i64)))] (upds g [(0, y0), (2, y2), (3, y3), (5, y5), (8, y8), (9, y9), (10, y10), (11, y11)]) fun t => Q (.exit 1) t w) (fun y0 y2 y3 y5 y8 y9 y10 y11 w => ∀ g, rsh [(0, (.one .ptr)), (2, (.one (.int .i64))), (3, (.one (.int .i64))), (5, (.one .adr)), (8, (.one .adr)), (9, (.one .adr)), (10, (.one .bool)), (11, (.one (.int .i64)))] (upds g [(0, y0), (2, y2), (3, y3), (5, y5), (8, y8), (9, y9), (10, y10), (11, y11)]) fun t => Q .normal t w) (t 0) (t 2) (t 3) (t 5) (t 8) (t 9) (t 10) (t 11) (t 12) (t 13) w
theorem F71_2_step (K1 : Value → Value → Value → Value → Value → Value → Value → Value → World → Prop) (Kn : Value → Value → Value → Value → Value → Value → Value → Value → World → Prop) (t : Tm) (w : World) : (F71_2 K1 Kn (t 0) (t 2) (t 3) (t 5) (t 8) (t 9) (t 10) (t 11) (t 12) (t 13) w) = rsh [(0, (.one .ptr)), (2, (.one (.int .i64))), (3, (.one (.int .i64))), (5, (.one .adr)), (8, (.one .adr)), (9, (.one .adr)), (10, (.one .bool)), (11, (.one (.int .i64))), (12, (.one .adr)), (13, (.one .bool))] t (fun t => vc Try.prog (orcOf [([1, 1, 1, 1, 0, 0, 1, 0, 0, 1, 0, 1, 1, 1], F71_1O)]) [1, 1, 1, 0, 0, 1, 0, 0, 1, 0, 1, 1, 1] (getAt F71_code [1, 1, 1, 0, 0, 1, 0, 0, 1, 0, 1, 1, 1]) (F71_2C K1 Kn) t w) := by kernel_rfl
theorem F71_2_ok : ∀ Q t w, F71_2O Q t w → W Try.prog Try.f71.ntmps (getAt F71_code [1, 1, 1, 0, 0, 1, 0, 0, 1, 0, 1, 1, 1]) Q t w := by
  intro Q t w h
  unfold F71_2O at h
  rw [F71_2_step] at h
  refine (vc_sound mixed (orcCons (π := [1, 1, 1, 1, 0, 0, 1, 0, 0, 1, 0, 1, 1, 1]) F71_1_ok (orcNil F71_code)) _ _ rfl (okC_at F71_code_ok [1, 1, 1, 0, 0, 1, 0, 0, 1, 0, 1, 1, 1]) _ _ _ (rsh_out h)).mono ?_
  intro o t w q
  cases o with
  | normal => exact out_ok [0, 2, 3, 5, 8, 9, 10, 11] q
  | exit i =>
      unfold F71_2C at q
      simp only at q
      split at q
      · rename_i hi
        rw [nbeq] at hi
        subst hi
        exact out_ok [0, 2, 3, 5, 8, 9, 10, 11] q
      · exact q.elim
  | ret => exact q.elim
def F71_3C (K0 : Value → Value → World → Prop) : Post := fun o t w => match o with | .normal => False | .exit i => (match Nat.beq i 0 with | true => K0 (t 8) (t 9) w | false => False) | .ret => False
def F71_3B (R : Value → Value → Value → Value → Value → Value → Value → Value → World → Prop) (K0 : Value → Value → World → Prop) (x0 : Value) (x2 : Value) (x3 : Value) (x5 : Value) (x8 : Value) (x9 : Value) (x10 : Value) (x11 : Value) (w : World) : Prop :=
  rdP x0 fun p1 => rdI .i64 x2 fun n2 => rdI .i64 x3 fun n3 => rdA x5 fun a4 => rdA x8 fun a5 => rdA x9 fun a6 => rdB x10 fun b7 => rdI .i64 x11 fun n8 => nn p1 fun a9 => ldC (a9.add 2) w fun _ l10n _ => br (decide ((n8 : Int) < (l10n : Int))) (nn p1 fun a11 => ldC (a11.add 2) w fun l12a l12n _ => ixS 14 l12a l12n n8 fun a13 => ldR57 a13 w fun s14 => alc (.cells ((R57.mk 0 0 0 0 0 false 0 0 0 0 false none 0 0 false false)).c 58) w fun b15 w16 => stcL (Addr.mk b15 0 none) 0 s14.l w16 fun w17 => ldR30 a4 w17 fun s18 => ldR57 (Addr.mk b15 0 none) w17 fun s19 => Calls Try.prog 72 #[s18.v, s19.v] w17 fun e21 w20 => ∃ b22, ∃ b23, e21 = .returned (.tuple #[(.bool b22), (.bool b23)]) ∧ (ldR57 (Addr.mk b15 0 none) w20 fun s24 => Calls Try.prog 73 #[s24.v] w20 fun e26 w25 => ∃ b27, e26 = .returned (.bool b27) ∧ (br (!b27) (R (.pointer p1) (.int .i64 n2) (.int .i64 n3) (.pointer (some a4)) (.pointer (some a5)) (.pointer (some a6)) (.bool b7) (.int .i64 (IntKind.wrap .i64 (n8 + 1))) w25) (ldI .i64 ((Addr.mk b15 0 none).add 1) w25 fun n28 => br (n28 != n2) (R (.pointer p1) (.int .i64 n2) (.int .i64 n3) (.pointer (some a4)) (.pointer (some a5)) (.pointer (some a6)) (.bool b7) (.int .i64 (IntKind.wrap .i64 (n8 + 1))) w25) (F71_2 (fun y0_28 y2_28 y3_28 y5_28 y8_28 y9_28 y10_28 y11_28 w30 => ∀ _g31 : Tm, rdP y0_28 fun p32 => rdI .i64 y2_28 fun n33 => rdI .i64 y3_28 fun n34 => rdA y5_28 fun a35 => rdA y8_28 fun a36 => rdA y9_28 fun a37 => rdB y10_28 fun b38 => rdI .i64 y11_28 fun n39 => R (.pointer p32) (.int .i64 n33) (.int .i64 n34) (.pointer (some a35)) (.pointer (some a36)) (.pointer (some a37)) (.bool b38) (.int .i64 (IntKind.wrap .i64 (n39 + 1))) w30) (fun y0_39 y2_39 y3_39 y5_39 y8_39 y9_39 y10_39 y11_39 w41 => ∀ _g42 : Tm, rdP y0_39 fun p43 => rdI .i64 y2_39 fun n44 => rdI .i64 y3_39 fun n45 => rdA y5_39 fun a46 => rdA y8_39 fun a47 => rdA y9_39 fun a48 => rdB y10_39 fun b49 => rdI .i64 y11_39 fun n50 => R (.pointer p43) (.int .i64 n44) (.int .i64 n45) (.pointer (some a46)) (.pointer (some a47)) (.pointer (some a48)) (.bool b49) (.int .i64 (IntKind.wrap .i64 (n50 + 1))) w41) (.pointer p1) (.int .i64 n2) (.int .i64 n3) (.pointer (some a4)) (.pointer (some a5)) (.pointer (some a6)) (.bool b7) (.int .i64 n8) (.pointer (some (Addr.mk b15 0 none))) (.bool b22) w25))))) (K0 (.pointer (some a5)) (.pointer (some a6)) w)
def F71_3 (K0 : Value → Value → World → Prop) : Nat → Value → Value → Value → Value → Value → Value → Value → Value → World → Prop
  | 0 => fun _ _ _ _ _ _ _ _ _ => False
  | n + 1 => F71_3B (F71_3 K0 n) K0
def F71_3O (Q : Post) (t : Tm) (w : World) : Prop := ∃ n, F71_3 (fun y8 y9 w => ∀ g, rsh [(8, (.one .adr)), (9, (.one .adr))] (upds g [(8, y8), (9, y9)]) fun t => Q (.exit 0) t w) n (t 0) (t 2) (t 3) (t 5) (t 8) (t 9) (t 10) (t 11) w
theorem F71_3_step (K0 : Value → Value → World → Prop) (n : Nat) (t : Tm) (w : World) : (F71_3 K0 (n + 1) (t 0) (t 2) (t 3) (t 5) (t 8) (t 9) (t 10) (t 11) w) = rsh [(0, (.one .ptr)), (2, (.one (.int .i64))), (3, (.one (.int .i64))), (5, (.one .adr)), (8, (.one .adr)), (9, (.one .adr)), (10, (.one .bool)), (11, (.one (.int .i64)))] t (fun t => vc Try.prog (orcOf [([1, 1, 1, 1, 0, 0, 1, 0, 0, 1, 0, 1, 1, 1], F71_1O), ([1, 1, 1, 0, 0, 1, 0, 0, 1, 0, 1, 1, 1], F71_2O)]) [0, 0, 1, 0, 1, 1, 1] (getAt F71_code [0, 0, 1, 0, 1, 1, 1]) (fun o t w => match o with | .normal => F71_3 K0 n (t 0) (t 2) (t 3) (t 5) (t 8) (t 9) (t 10) (t 11) w | .exit i => F71_3C K0 (.exit i) t w | .ret => F71_3C K0 .ret t w) t w) := by kernel_rfl
theorem F71_3_ok : ∀ Q t w, F71_3O Q t w → W Try.prog Try.f71.ntmps (getAt F71_code [0, 1, 0, 1, 1, 1]) Q t w := by
  intro Q t w ⟨n, h⟩
  refine (W_loop (P := Try.prog) (b := getAt F71_code [0, 0, 1, 0, 1, 1, 1]) (Q := F71_3C (fun y8 y9 w => ∀ g, rsh [(8, (.one .adr)), (9, (.one .adr))] (upds g [(8, y8), (9, y9)]) fun t => Q (.exit 0) t w)) (G := fun n t w => F71_3 (fun y8 y9 w => ∀ g, rsh [(8, (.one .adr)), (9, (.one .adr))] (upds g [(8, y8), (9, y9)]) fun t => Q (.exit 0) t w) n (t 0) (t 2) (t 3) (t 5) (t 8) (t 9) (t 10) (t 11) w) (fun _ _ h => h) (fun n t w h => ?_) n t w h).mono ?_
  · rw [F71_3_step] at h
    exact vc_sound mixed (orcCons (π := [1, 1, 1, 1, 0, 0, 1, 0, 0, 1, 0, 1, 1, 1]) F71_1_ok (orcCons (π := [1, 1, 1, 0, 0, 1, 0, 0, 1, 0, 1, 1, 1]) F71_2_ok (orcNil F71_code))) _ _ rfl (okC_at F71_code_ok [0, 0, 1, 0, 1, 1, 1]) _ _ _ (rsh_out h)
  · intro o t w q
    cases o with
    | normal => exact q.elim
    | exit i =>
      unfold F71_3C at q
      simp only at q
      split at q
      · rename_i hi
        rw [nbeq] at hi
        subst hi
        exact out_ok [8, 9] q
      · exact q.elim
    | ret => exact q.elim
def F71 (x0 : Value) (x1 : Value) (x2 : Value) (x3 : Value) (w : World) (K : Value → World → Prop) : Prop :=
  rdP x0 fun p1 => exR30 fun s2 => x1 = s2.v ∧ (rdI .i64 x2 fun n3 => rdI .i64 x3 fun n4 => alc (.cells s2.c 31) w fun b5 w6 => alc (.cells ((R52.mk 0 false 0 0)).c 53) w6 fun b7 w8 => alc (.cells ((R52.mk 0 false 0 0)).c 53) w8 fun b9 w10 => stcL (Addr.mk b9 0 none) 0 (R52.mk 0 false (-1) 0).l w10 fun w11 => ∃ k20 : Nat, F71_3 (fun y8_11 y9_11 w13 => ∀ _g14 : Tm, rdA y8_11 fun a15 => rdA y9_11 fun a16 => ldR52 a16 w13 fun s17 => stcL a15 0 s17.l w13 fun w18 => ldR52 a15 w18 fun s19 => K s19.v w18) k20 (.pointer p1) (.int .i64 n3) (.int .i64 n4) (.pointer (some (Addr.mk b5 0 none))) (.pointer (some (Addr.mk b7 0 none))) (.pointer (some (Addr.mk b9 0 none))) (.bool true) (.int .i64 0) w11)
theorem F71_step (x0 : Value) (x1 : Value) (x2 : Value) (x3 : Value) (w : World) (K : Value → World → Prop) : (F71 x0 x1 x2 x3 w K) = rsh [(0, (.one .ptr)), (1, (.agg [(.int .u8), (.int .u8), (.int .u32), (.int .u16), (.int .u16), (.int .u32), (.int .u32), (.int .u32), (.int .u16), (.int .u16), .slc, .slc, .slc, .slc, .slc])), (2, (.one (.int .i64))), (3, (.one (.int .i64)))] (args0 #[x0, x1, x2, x3]) (fun t => vc Try.prog (orcOf [([1, 1, 1, 1, 0, 0, 1, 0, 0, 1, 0, 1, 1, 1], F71_1O), ([1, 1, 1, 0, 0, 1, 0, 0, 1, 0, 1, 1, 1], F71_2O), ([0, 1, 0, 1, 1, 1], F71_3O)]) [] F71_code (retQ Try.prog Try.f71 K) t w) := by kernel_rfl
theorem F71_ok {x0 x1 x2 x3 : Value} {w : World} {K : Value → World → Prop} (h : F71 x0 x1 x2 x3 w K) : Calls Try.prog 71 #[x0, x1, x2, x3] w fun e w' => ∃ v, e = .returned v ∧ K v w' := by
  rw [F71_step] at h
  exact calls_of (c := F71_code) mixed Try.func71 rfl (nlt rfl) (vc_sound mixed (orcCons (π := [1, 1, 1, 1, 0, 0, 1, 0, 0, 1, 0, 1, 1, 1]) F71_1_ok (orcCons (π := [1, 1, 1, 0, 0, 1, 0, 0, 1, 0, 1, 1, 1]) F71_2_ok (orcCons (π := [0, 1, 0, 1, 1, 1]) F71_3_ok (orcNil F71_code)))) F71_code [] rfl F71_code_ok _ _ _ (rsh_out h))

/-! ropewalk/ropewalkref17.tells -/
noncomputable def F72_code : Code := Try.f72.body.getD .skip
theorem F72_code_ok : okC Try.prog Try.f72.ntmps F72_code = true := by kernel_rfl
def F72_1C (Kr : Value → Value → World → Prop) : Post := fun o t w => match o with | .normal => False | .exit _ => (False) | .ret => Kr (t 4) (t 5) w
def F72_1 (Kr : Value → Value → World → Prop) (x2 : Value) (x6 : Value) (x7 : Value) (w : World) : Prop :=
  rdA x2 fun a1 => rdI .i64 x6 fun n2 => rdB x7 fun b3 => br b3 (Kr (.bool true) (.bool b3) w) (ldC (a1.add 10) w fun l4a l4n l4c => Calls Try.prog 78 #[(.slice l4a l4n l4c), (.int .i64 n2)] w fun e6 w5 => ∃ b7, e6 = .returned (.bool b7) ∧ (Kr (.bool b7) (.bool b3) w5))
def F72_1O (Q : Post) (t : Tm) (w : World) : Prop := F72_1 (fun y4 y5 w => ∀ g, rsh [(4, (.one .bool)), (5, (.one .bool))] (upds g [(4, y4), (5, y5)]) fun t => Q .ret t w) (t 2) (t 6) (t 7) w
theorem F72_1_step (Kr : Value → Value → World → Prop) (t : Tm) (w : World) : (F72_1 Kr (t 2) (t 6) (t 7) w) = rsh [(2, (.one .adr)), (6, (.one (.int .i64))), (7, (.one .bool))] t (fun t => vc Try.prog (orcOf []) [1, 1, 1] (getAt F72_code [1, 1, 1]) (F72_1C Kr) t w) := by kernel_rfl
theorem F72_1_ok : ∀ Q t w, F72_1O Q t w → W Try.prog Try.f72.ntmps (getAt F72_code [1, 1, 1]) Q t w := by
  intro Q t w h
  unfold F72_1O at h
  rw [F72_1_step] at h
  refine (vc_sound mixed (orcNil F72_code) _ _ rfl (okC_at F72_code_ok [1, 1, 1]) _ _ _ (rsh_out h)).mono ?_
  intro o t w q
  cases o with
  | normal => exact q.elim
  | exit i => exact q.elim
  | ret => exact out_ok [4, 5] q
def F72 (x0 : Value) (x1 : Value) (w : World) (K : Value → World → Prop) : Prop :=
  exR30 fun s1 => x0 = s1.v ∧ (exR57 fun s2 => x1 = s2.v ∧ (alc (.cells s1.c 31) w fun b3 w4 => alc (.cells s2.c 58) w4 fun b5 w6 => ldI .u32 ((Addr.mk b3 0 none).add 2) w6 fun n7 => ldI .u32 ((Addr.mk b5 0 none).add 0) w6 fun n8 => Calls Try.prog 76 #[(.int .u32 n7), (.int .u32 n8)] w6 fun e10 w9 => ∃ n11, e10 = .returned (.int .i64 n11) ∧ (br (decide ((n11 : Int) ≤ 0)) (F72_1 (fun y4_11 y5_11 w13 => ∀ _g14 : Tm, rdB y4_11 fun b15 => rdB y5_11 fun b16 => K (.tuple #[(.bool b15), (.bool b16)]) w13) (.pointer (some (Addr.mk b3 0 none))) (.int .i64 n11) (.bool true) w9) (ldR30 (Addr.mk b3 0 none) w9 fun s17 => Calls Try.prog 68 #[s17.v] w9 fun e19 w18 => ∃ l20a l20n l20c, e19 = .returned (.slice l20a l20n l20c) ∧ (Calls Try.prog 78 #[(.slice l20a l20n l20c), (.int .i64 n11)] w18 fun e22 w21 => ∃ b23, e22 = .returned (.bool b23) ∧ (F72_1 (fun y4_23 y5_23 w25 => ∀ _g26 : Tm, rdB y4_23 fun b27 => rdB y5_23 fun b28 => K (.tuple #[(.bool b27), (.bool b28)]) w25) (.pointer (some (Addr.mk b3 0 none))) (.int .i64 n11) (.bool b23) w21))))))
theorem F72_step (x0 : Value) (x1 : Value) (w : World) (K : Value → World → Prop) : (F72 x0 x1 w K) = rsh [(0, (.agg [(.int .u8), (.int .u8), (.int .u32), (.int .u16), (.int .u16), (.int .u32), (.int .u32), (.int .u32), (.int .u16), (.int .u16), .slc, .slc, .slc, .slc, .slc])), (1, (.agg [(.int .u32), (.int .i64), (.int .i64), (.int .i64), (.int .i64), .bool, (.int .i64), (.int .u16), (.int .u16), (.int .u32), .bool, .slc, .bool, .bool]))] (args0 #[x0, x1]) (fun t => vc Try.prog (orcOf [([1, 1, 1], F72_1O)]) [] F72_code (retQ Try.prog Try.f72 K) t w) := by kernel_rfl
theorem F72_ok {x0 x1 : Value} {w : World} {K : Value → World → Prop} (h : F72 x0 x1 w K) : Calls Try.prog 72 #[x0, x1] w fun e w' => ∃ v, e = .returned v ∧ K v w' := by
  rw [F72_step] at h
  exact calls_of (c := F72_code) mixed Try.func72 rfl (nlt rfl) (vc_sound mixed (orcCons (π := [1, 1, 1]) F72_1_ok (orcNil F72_code)) F72_code [] rfl F72_code_ok _ _ _ (rsh_out h))

/-! ropewalk/ropewalkref17.open -/
noncomputable def F73_code : Code := Try.f73.body.getD .skip
theorem F73_code_ok : okC Try.prog Try.f73.ntmps F73_code = true := by kernel_rfl
def F73 (x0 : Value) (w : World) (K : Value → World → Prop) : Prop :=
  exR57 fun s1 => x0 = s1.v ∧ (alc (.cells s1.c 58) w fun b2 w3 => ldI .i64 ((Addr.mk b2 0 none).add 6) w3 fun n4 => br (n4 == 1) (K (.bool true) w3) (ldI .i64 ((Addr.mk b2 0 none).add 6) w3 fun n5 => K (.bool (n5 == 2)) w3))
theorem F73_step (x0 : Value) (w : World) (K : Value → World → Prop) : (F73 x0 w K) = rsh [(0, (.agg [(.int .u32), (.int .i64), (.int .i64), (.int .i64), (.int .i64), .bool, (.int .i64), (.int .u16), (.int .u16), (.int .u32), .bool, .slc, .bool, .bool]))] (args0 #[x0]) (fun t => vc Try.prog (orcOf []) [] F73_code (retQ Try.prog Try.f73 K) t w) := by kernel_rfl
theorem F73_ok {x0 : Value} {w : World} {K : Value → World → Prop} (h : F73 x0 w K) : Calls Try.prog 73 #[x0] w fun e w' => ∃ v, e = .returned v ∧ K v w' := by
  rw [F73_step] at h
  exact calls_of (c := F73_code) mixed Try.func73 rfl (nlt rfl) (vc_sound mixed (orcNil F73_code) F73_code [] rfl F73_code_ok _ _ _ (rsh_out h))

/-! ropewalk/ropewalkref17.size -/
noncomputable def F74_code : Code := Try.f74.body.getD .skip
theorem F74_code_ok : okC Try.prog Try.f74.ntmps F74_code = true := by kernel_rfl
def F74 (x0 : Value) (w : World) (K : Value → World → Prop) : Prop :=
  exR57 fun s1 => x0 = s1.v ∧ (alc (.cells s1.c 58) w fun b2 w3 => ldC ((((Addr.mk b2 0 none).add 7).add 0).add 4) w3 fun _ l4n _ => K (.int .i64 (l4n : Int)) w3)
theorem F74_step (x0 : Value) (w : World) (K : Value → World → Prop) : (F74 x0 w K) = rsh [(0, (.agg [(.int .u32), (.int .i64), (.int .i64), (.int .i64), (.int .i64), .bool, (.int .i64), (.int .u16), (.int .u16), (.int .u32), .bool, .slc, .bool, .bool]))] (args0 #[x0]) (fun t => vc Try.prog (orcOf []) [] F74_code (retQ Try.prog Try.f74 K) t w) := by kernel_rfl
theorem F74_ok {x0 : Value} {w : World} {K : Value → World → Prop} (h : F74 x0 w K) : Calls Try.prog 74 #[x0] w fun e w' => ∃ v, e = .returned v ∧ K v w' := by
  rw [F74_step] at h
  exact calls_of (c := F74_code) mixed Try.func74 rfl (nlt rfl) (vc_sound mixed (orcNil F74_code) F74_code [] rfl F74_code_ok _ _ _ (rsh_out h))

/-! (*ropewalk/ropewalkref17.Box).later -/
noncomputable def F75_code : Code := Try.f75.body.getD .skip
theorem F75_code_ok : okC Try.prog Try.f75.ntmps F75_code = true := by kernel_rfl
def F75_1C (K0 : World → Prop) (Kr : Value → World → Prop) : Post := fun o t w => match o with | .normal => False | .exit i => (match Nat.beq i 0 with | true => K0  w | false => False) | .ret => Kr (t 6) w
def F75_1B (R : Value → Value → Value → Value → World → Prop) (K0 : World → Prop) (Kr : Value → World → Prop) (x0 : Value) (x1 : Value) (x2 : Value) (x7 : Value) (w : World) : Prop :=
  rdP x0 fun p1 => rdC x1 fun l2a l2n l2c => rdI .i64 x2 fun n3 => rdI .i64 x7 fun n4 => nn p1 fun a5 => ldC (a5.add 2) w fun _ l6n _ => br (decide ((n4 : Int) < (l6n : Int))) (drw w fun w7 => ixS 1 l2a l2n n4 fun a8 => ldB a8 w7 fun b9 => br b9 (nn p1 fun a10 => ldC (a10.add 2) w7 fun l11a l11n _ => ixS 14 l11a l11n n4 fun a12 => ldI .i64 (a12.add 1) w7 fun n13 => nn p1 fun a14 => ldC (a14.add 2) w7 fun l15a l15n _ => ixS 14 l15a l15n n3 fun a16 => ldI .i64 (a16.add 1) w7 fun n17 => br (n13 == n17) (nn p1 fun a18 => ldC (a18.add 2) w7 fun l19a l19n _ => ixS 14 l19a l19n n4 fun a20 => ldI .i64 (a20.add 3) w7 fun n21 => nn p1 fun a22 => ldC (a22.add 2) w7 fun l23a l23n _ => ixS 14 l23a l23n n3 fun a24 => ldI .i64 (a24.add 3) w7 fun n25 => br (decide ((n21 : Int) ≥ n25)) (Kr (.bool true) w7) (R (.pointer p1) (.slice l2a l2n l2c) (.int .i64 n3) (.int .i64 (IntKind.wrap .i64 (n4 + 1))) w7)) (R (.pointer p1) (.slice l2a l2n l2c) (.int .i64 n3) (.int .i64 (IntKind.wrap .i64 (n4 + 1))) w7)) (R (.pointer p1) (.slice l2a l2n l2c) (.int .i64 n3) (.int .i64 (IntKind.wrap .i64 (n4 + 1))) w7)) (K0 w)
def F75_1 (K0 : World → Prop) (Kr : Value → World → Prop) : Nat → Value → Value → Value → Value → World → Prop
  | 0 => fun _ _ _ _ _ => False
  | n + 1 => F75_1B (F75_1 K0 Kr n) K0 Kr
def F75_1O (Q : Post) (t : Tm) (w : World) : Prop := ∃ n, F75_1 (fun w => ∀ g, rsh [] (upds g []) fun t => Q (.exit 0) t w) (fun y6 w => ∀ g, rsh [(6, (.one .bool))] (upds g [(6, y6)]) fun t => Q .ret t w) n (t 0) (t 1) (t 2) (t 7) w
theorem F75_1_step (K0 : World → Prop) (Kr : Value → World → Prop) (n : Nat) (t : Tm) (w : World) : (F75_1 K0 Kr (n + 1) (t 0) (t 1) (t 2) (t 7) w) = rsh [(0, (.one .ptr)), (1, (.one .slc)), (2, (.one (.int .i64))), (7, (.one (.int .i64)))] t (fun t => vc Try.prog (orcOf []) [0, 0, 1, 0, 1] (getAt F75_code [0, 0, 1, 0, 1]) (fun o t w => match o with | .normal => F75_1 K0 Kr n (t 0) (t 1) (t 2) (t 7) w | .exit i => F75_1C K0 Kr (.exit i) t w | .ret => F75_1C K0 Kr .ret t w) t w) := by kernel_rfl
theorem F75_1_ok : ∀ Q t w, F75_1O Q t w → W Try.prog Try.f75.ntmps (getAt F75_code [0, 1, 0, 1]) Q t w := by
  intro Q t w ⟨n, h⟩
  refine (W_loop (P := Try.prog) (b := getAt F75_code [0, 0, 1, 0, 1]) (Q := F75_1C (fun w => ∀ g, rsh [] (upds g []) fun t => Q (.exit 0) t w) (fun y6 w => ∀ g, rsh [(6, (.one .bool))] (upds g [(6, y6)]) fun t => Q .ret t w)) (G := fun n t w => F75_1 (fun w => ∀ g, rsh [] (upds g []) fun t => Q (.exit 0) t w) (fun y6 w => ∀ g, rsh [(6, (.one .bool))] (upds g [(6, y6)]) fun t => Q .ret t w) n (t 0) (t 1) (t 2) (t 7) w) (fun _ _ h => h) (fun n t w h => ?_) n t w h).mono ?_
  · rw [F75_1_step] at h
    exact vc_sound mixed (orcNil F75_code) _ _ rfl (okC_at F75_code_ok [0, 0, 1, 0, 1]) _ _ _ (rsh_out h)
  · intro o t w q
    cases o with
    | normal => exact q.elim
    | exit i =>
      unfold F75_1C at q
      simp only at q
      split at q
      · rename_i hi
        rw [nbeq] at hi
        subst hi
        exact out_ok [] q
      · exact q.elim
    | ret => exact out_ok [6] q
def F75 (x0 : Value) (x1 : Value) (x2 : Value) (w : World) (K : Value → World → Prop) : Prop :=
  rdP x0 fun p1 => rdC x1 fun l2a l2n l2c => rdI .i64 x2 fun n3 => ∃ k11 : Nat, F75_1 (fun w5 => ∀ _g6 : Tm, K (.bool false) w5) (fun y6_6 w8 => ∀ _g9 : Tm, rdB y6_6 fun b10 => K (.bool b10) w8) k11 (.pointer p1) (.slice l2a l2n l2c) (.int .i64 n3) (.int .i64 (IntKind.wrap .i64 (n3 + 1))) w
theorem F75_step (x0 : Value) (x1 : Value) (x2 : Value) (w : World) (K : Value → World → Prop) : (F75 x0 x1 x2 w K) = rsh [(0, (.one .ptr)), (1, (.one .slc)), (2, (.one (.int .i64)))] (args0 #[x0, x1, x2]) (fun t => vc Try.prog (orcOf [([0, 1, 0, 1], F75_1O)]) [] F75_code (retQ Try.prog Try.f75 K) t w) := by kernel_rfl
theorem F75_ok {x0 x1 x2 : Value} {w : World} {K : Value → World → Prop} (h : F75 x0 x1 x2 w K) : Calls Try.prog 75 #[x0, x1, x2] w fun e w' => ∃ v, e = .returned v ∧ K v w' := by
  rw [F75_step] at h
  exact calls_of (c := F75_code) mixed Try.func75 rfl (nlt rfl) (vc_sound mixed (orcCons (π := [0, 1, 0, 1]) F75_1_ok (orcNil F75_code)) F75_code [] rfl F75_code_ok _ _ _ (rsh_out h))

/-! ropewalk/ropewalkref01.Diff -/
noncomputable def F76_code : Code := Try.f76.body.getD .skip
theorem F76_code_ok : okC Try.prog Try.f76.ntmps F76_code = true := by kernel_rfl
def F76 (x0 : Value) (x1 : Value) (w : World) (K : Value → World → Prop) : Prop :=
  rdI .u32 x0 fun n1 => rdI .u32 x1 fun n2 => Calls Try.prog 79 #[(.int .i64 (IntKind.wrap .i64 (n1))), (.int .i64 (IntKind.wrap .i64 (n2))), (.int .i64 4294967296)] w fun e4 w3 => ∃ n5, e4 = .returned (.int .i64 n5) ∧ (K (.int .i64 n5) w3)
theorem F76_step (x0 : Value) (x1 : Value) (w : World) (K : Value → World → Prop) : (F76 x0 x1 w K) = rsh [(0, (.one (.int .u32))), (1, (.one (.int .u32)))] (args0 #[x0, x1]) (fun t => vc Try.prog (orcOf []) [] F76_code (retQ Try.prog Try.f76 K) t w) := by kernel_rfl
theorem F76_ok {x0 x1 : Value} {w : World} {K : Value → World → Prop} (h : F76 x0 x1 w K) : Calls Try.prog 76 #[x0, x1] w fun e w' => ∃ v, e = .returned v ∧ K v w' := by
  rw [F76_step] at h
  exact calls_of (c := F76_code) mixed Try.func76 rfl (nlt rfl) (vc_sound mixed (orcNil F76_code) F76_code [] rfl F76_code_ok _ _ _ (rsh_out h))

/-! slices.Backward[[]*ropewalk/outbox.entry,*ropewalk/outbox.entry]$1 -/
noncomputable def F77_code : Code := Try.f77.body.getD .skip
theorem F77_code_ok : okC Try.prog Try.f77.ntmps F77_code = true := by kernel_rfl
def F77_1C (K0 : World → Prop) (Kr : World → Prop) : Post := fun o _ w => match o with | .normal => False | .exit i => (match Nat.beq i 0 with | true => K0  w | false => False) | .ret => Kr  w
def F77_1B (R : Value → Value → Value → World → Prop) (K0 : World → Prop) (Kr : World → Prop) (x0 : Value) (x1 : Value) (x3 : Value) (w : World) : Prop :=
  rdA x1 fun a1 => rdI .i64 x3 fun n2 => br (decide ((n2 : Int) ≥ 0)) (ldC a1 w fun l3a l3n _ => ixS 1 l3a l3n n2 fun a4 => ldP a4 w fun p5 => callV Try.prog x0 #[(.int .i64 n2), (.pointer p5)] w (.one (.one .bool)) fun r7 w6 => ∃ b8, r7 = (.bool b8) ∧ (br (!b8) (Kr w6) (R x0 (.pointer (some a1)) (.int .i64 (IntKind.wrap .i64 (n2 - 1))) w6))) (K0 w)
def F77_1 (K0 : World → Prop) (Kr : World → Prop) : Nat → Value → Value → Value → World → Prop
  | 0 => fun _ _ _ _ => False
  | n + 1 => F77_1B (F77_1 K0 Kr n) K0 Kr
def F77_1O (Q : Post) (t : Tm) (w : World) : Prop := ∃ n, F77_1 (fun w => ∀ g, rsh [] (upds g []) fun t => Q (.exit 0) t w) (fun w => ∀ g, rsh [] (upds g []) fun t => Q .ret t w) n (t 0) (t 1) (t 3) w
theorem F77_1_step (K0 : World → Prop) (Kr : World → Prop) (n : Nat) (t : Tm) (w : World) : (F77_1 K0 Kr (n + 1) (t 0) (t 1) (t 3) w) = rsh [(1, (.one .adr)), (3, (.one (.int .i64)))] t (fun t => vc Try.prog (orcOf []) [0, 0, 1] (getAt F77_code [0, 0, 1]) (fun o t w => match o with | .normal => F77_1 K0 Kr n (t 0) (t 1) (t 3) w | .exit i => F77_1C K0 Kr (.exit i) t w | .ret => F77_1C K0 Kr .ret t w) t w) := by kernel_rfl
theorem F77_1_ok : ∀ Q t w, F77_1O Q t w → W Try.prog Try.f77.ntmps (getAt F77_code [0, 1]) Q t w := by
  intro Q t w ⟨n, h⟩
  refine (W_loop (P := Try.prog) (b := getAt F77_code [0, 0, 1]) (Q := F77_1C (fun w => ∀ g, rsh [] (upds g []) fun t => Q (.exit 0) t w) (fun w => ∀ g, rsh [] (upds g []) fun t => Q .ret t w)) (G := fun n t w => F77_1 (fun w => ∀ g, rsh [] (upds g []) fun t => Q (.exit 0) t w) (fun w => ∀ g, rsh [] (upds g []) fun t => Q .ret t w) n (t 0) (t 1) (t 3) w) (fun _ _ h => h) (fun n t w h => ?_) n t w h).mono ?_
  · rw [F77_1_step] at h
    exact vc_sound mixed (orcNil F77_code) _ _ rfl (okC_at F77_code_ok [0, 0, 1]) _ _ _ (rsh_out h)
  · intro o t w q
    cases o with
    | normal => exact q.elim
    | exit i =>
      unfold F77_1C at q
      simp only at q
      split at q
      · rename_i hi
        rw [nbeq] at hi
        subst hi
        exact out_ok [] q
      · exact q.elim
    | ret => exact out_ok [] q
def F77 (x0 : Value) (x1 : Value) (w : World) (K : Value → World → Prop) : Prop :=
  rdA x1 fun a1 => ldC a1 w fun _ l2n _ => ∃ k9 : Nat, F77_1 (fun w4 => ∀ _g5 : Tm, K (.tuple #[]) w4) (fun w7 => ∀ _g8 : Tm, K (.tuple #[]) w7) k9 x0 (.pointer (some a1)) (.int .i64 (IntKind.wrap .i64 ((l2n : Int) - 1))) w
theorem F77_step (x0 : Value) (x1 : Value) (w : World) (K : Value → World → Prop) : (F77 x0 x1 w K) = rsh [(1, (.one .adr))] (args0 #[x0, x1]) (fun t => vc Try.prog (orcOf [([0, 1], F77_1O)]) [] F77_code (retQ Try.prog Try.f77 K) t w) := by kernel_rfl
theorem F77_ok {x0 x1 : Value} {w : World} {K : Value → World → Prop} (h : F77 x0 x1 w K) : Calls Try.prog 77 #[x0, x1] w fun e w' => ∃ v, e = .returned v ∧ K v w' := by
  rw [F77_step] at h
  exact calls_of (c := F77_code) mixed Try.func77 rfl (nlt rfl) (vc_sound mixed (orcCons (π := [0, 1]) F77_1_ok (orcNil F77_code)) F77_code [] rfl F77_code_ok _ _ _ (rsh_out h))

/-! ropewalk/ropewalkref17.inside -/
noncomputable def F78_code : Code := Try.f78.body.getD .skip
theorem F78_code_ok : okC Try.prog Try.f78.ntmps F78_code = true := by kernel_rfl
def F78_1C (K0 : World → Prop) (Kr : Value → World → Prop) : Post := fun o t w => match o with | .normal => False | .exit i => (match Nat.beq i 0 with | true => K0  w | false => False) | .ret => Kr (t 4) w
def F78_1B (R : Value → Value → Value → World → Prop) (K0 : World → Prop) (Kr : Value → World → Prop) (x0 : Value) (x1 : Value) (x5 : Value) (w : World) : Prop :=
  rdC x0 fun l1a l1n l1c => rdI .i64 x1 fun n2 => rdI .i64 x5 fun n3 => br (decide ((n3 : Int) < (l1n : Int))) (ixS 2 l1a l1n n3 fun a4 => ldI .u16 (a4.add 0) w fun n5 => br (decide ((n2 : Int) ≥ (IntKind.wrap .i64 (n5)))) (ixS 2 l1a l1n n3 fun a6 => ldI .u16 (a6.add 1) w fun n7 => br (decide ((n2 : Int) ≤ (IntKind.wrap .i64 (n7)))) (Kr (.bool true) w) (R (.slice l1a l1n l1c) (.int .i64 n2) (.int .i64 (IntKind.wrap .i64 (n3 + 1))) w)) (R (.slice l1a l1n l1c) (.int .i64 n2) (.int .i64 (IntKind.wrap .i64 (n3 + 1))) w)) (K0 w)
def F78_1 (K0 : World → Prop) (Kr : Value → World → Prop) : Nat → Value → Value → Value → World → Prop
  | 0 => fun _ _ _ _ => False
  | n + 1 => F78_1B (F78_1 K0 Kr n) K0 Kr
def F78_1O (Q : Post) (t : Tm) (w : World) : Prop := ∃ n, F78_1 (fun w => ∀ g, rsh [] (upds g []) fun t => Q (.exit 0) t w) (fun y4 w => ∀ g, rsh [(4, (.one .bool))] (upds g [(4, y4)]) fun t => Q .ret t w) n (t 0) (t 1) (t 5) w
theorem F78_1_step (K0 : World → Prop) (Kr : Value → World → Prop) (n : Nat) (t : Tm) (w : World) : (F78_1 K0 Kr (n + 1) (t 0) (t 1) (t 5) w) = rsh [(0, (.one .slc)), (1, (.one (.int .i64))), (5, (.one (.int .i64)))] t (fun t => vc Try.prog (orcOf []) [0, 0, 1, 0, 1] (getAt F78_code [0, 0, 1, 0, 1]) (fun o t w => match o with | .normal => F78_1 K0 Kr n (t 0) (t 1) (t 5) w | .exit i => F78_1C K0 Kr (.exit i) t w | .ret => F78_1C K0 Kr .ret t w) t w) := by kernel_rfl
theorem F78_1_ok : ∀ Q t w, F78_1O Q t w → W Try.prog Try.f78.ntmps (getAt F78_code [0, 1, 0, 1]) Q t w := by
  intro Q t w ⟨n, h⟩
  refine (W_loop (P := Try.prog) (b := getAt F78_code [0, 0, 1, 0, 1]) (Q := F78_1C (fun w => ∀ g, rsh [] (upds g []) fun t => Q (.exit 0) t w) (fun y4 w => ∀ g, rsh [(4, (.one .bool))] (upds g [(4, y4)]) fun t => Q .ret t w)) (G := fun n t w => F78_1 (fun w => ∀ g, rsh [] (upds g []) fun t => Q (.exit 0) t w) (fun y4 w => ∀ g, rsh [(4, (.one .bool))] (upds g [(4, y4)]) fun t => Q .ret t w) n (t 0) (t 1) (t 5) w) (fun _ _ h => h) (fun n t w h => ?_) n t w h).mono ?_
  · rw [F78_1_step] at h
    exact vc_sound mixed (orcNil F78_code) _ _ rfl (okC_at F78_code_ok [0, 0, 1, 0, 1]) _ _ _ (rsh_out h)
  · intro o t w q
    cases o with
    | normal => exact q.elim
    | exit i =>
      unfold F78_1C at q
      simp only at q
      split at q
      · rename_i hi
        rw [nbeq] at hi
        subst hi
        exact out_ok [] q
      · exact q.elim
    | ret => exact out_ok [4] q
def F78 (x0 : Value) (x1 : Value) (w : World) (K : Value → World → Prop) : Prop :=
  rdC x0 fun l1a l1n l1c => rdI .i64 x1 fun n2 => ∃ k10 : Nat, F78_1 (fun w4 => ∀ _g5 : Tm, K (.bool false) w4) (fun y4_5 w7 => ∀ _g8 : Tm, rdB y4_5 fun b9 => K (.bool b9) w7) k10 (.slice l1a l1n l1c) (.int .i64 n2) (.int .i64 0) w
theorem F78_step (x0 : Value) (x1 : Value) (w : World) (K : Value → World → Prop) : (F78 x0 x1 w K) = rsh [(0, (.one .slc)), (1, (.one (.int .i64)))] (args0 #[x0, x1]) (fun t => vc Try.prog (orcOf [([0, 1, 0, 1], F78_1O)]) [] F78_code (retQ Try.prog Try.f78 K) t w) := by kernel_rfl
theorem F78_ok {x0 x1 : Value} {w : World} {K : Value → World → Prop} (h : F78 x0 x1 w K) : Calls Try.prog 78 #[x0, x1] w fun e w' => ∃ v, e = .returned v ∧ K v w' := by
  rw [F78_step] at h
  exact calls_of (c := F78_code) mixed Try.func78 rfl (nlt rfl) (vc_sound mixed (orcCons (π := [0, 1, 0, 1]) F78_1_ok (orcNil F78_code)) F78_code [] rfl F78_code_ok _ _ _ (rsh_out h))

/-! ropewalk/ropewalkref01.diff -/
noncomputable def F79_code : Code := Try.f79.body.getD .skip
theorem F79_code_ok : okC Try.prog Try.f79.ntmps F79_code = true := by kernel_rfl
def F79 (x0 : Value) (x1 : Value) (x2 : Value) (w : World) (K : Value → World → Prop) : Prop :=
  rdI .i64 x0 fun n1 => rdI .i64 x1 fun n2 => rdI .i64 x2 fun n3 => nz n3 (br (decide (((Int.tmod (IntKind.wrap .i64 (n2 - n1)) n3) : Int) < 0)) (br (decide (((IntKind.wrap .i64 ((Int.tmod (IntKind.wrap .i64 (n2 - n1)) n3) + n3)) : Int) ≥ (IntKind.wrap .i64 (Int.tdiv n3 2)))) (K (.int .i64 (IntKind.wrap .i64 ((IntKind.wrap .i64 ((Int.tmod (IntKind.wrap .i64 (n2 - n1)) n3) + n3)) - n3))) w) (K (.int .i64 (IntKind.wrap .i64 ((Int.tmod (IntKind.wrap .i64 (n2 - n1)) n3) + n3))) w)) (br (decide (((Int.tmod (IntKind.wrap .i64 (n2 - n1)) n3) : Int) ≥ (IntKind.wrap .i64 (Int.tdiv n3 2)))) (K (.int .i64 (IntKind.wrap .i64 ((Int.tmod (IntKind.wrap .i64 (n2 - n1)) n3) - n3))) w) (K (.int .i64 (Int.tmod (IntKind.wrap .i64 (n2 - n1)) n3)) w)))
theorem F79_step (x0 : Value) (x1 : Value) (x2 : Value) (w : World) (K : Value → World → Prop) : (F79 x0 x1 x2 w K) = rsh [(0, (.one (.int .i64))), (1, (.one (.int .i64))), (2, (.one (.int .i64)))] (args0 #[x0, x1, x2]) (fun t => vc Try.prog (orcOf []) [] F79_code (retQ Try.prog Try.f79 K) t w) := by kernel_rfl
theorem F79_ok {x0 x1 x2 : Value} {w : World} {K : Value → World → Prop} (h : F79 x0 x1 x2 w K) : Calls Try.prog 79 #[x0, x1, x2] w fun e w' => ∃ v, e = .returned v ∧ K v w' := by
  rw [F79_step] at h
  exact calls_of (c := F79_code) mixed Try.func79 rfl (nlt rfl) (vc_sound mixed (orcNil F79_code) F79_code [] rfl F79_code_ok _ _ _ (rsh_out h))
end Go.Proofs.Ytmliokbonkndaaa
