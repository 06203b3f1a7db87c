/- Own text: part of the shallow reading of the code and of the contracts that are proved over it. -/
import Derived.Test.YtccffjlahpfdaaaDoorIbF0
import Derived.Test.YtccffjlahpfdaaaDoorProg
import Derived.KernelRfl
namespace Go.Proofs.YtccffjlahpfdaaaDoor
open Go Go.Sh
set_option maxRecDepth 100000
/-! ropewalk/ropewalklaw19.InboxKept -/
noncomputable def F3_code : Code := Tryd.f3.body.getD .skip
theorem F3_code_ok : okC Tryd.prog Tryd.f3.ntmps F3_code = true := by kernel_rfl
def F3_1C (K2 : World → Prop) (Kr : Value → World → Prop) : Post := fun o t w => match o with | .normal => False | .exit i => (match Nat.beq i 2 with | true => K2  w | false => False) | .ret => Kr (t 8) w
def F3_1B (R : Value → Value → Value → Value → Value → World → Prop) (K2 : World → Prop) (Kr : Value → World → Prop) (x9 : Value) (x12 : Value) (x19 : Value) (x21 : Value) (x22 : Value) (w : World) : Prop :=
  rdP x9 fun p1 => rdI .u32 x12 fun n2 => rdA x19 fun a3 => rdI .i64 x21 fun n4 => rdI .i64 x22 fun n5 => ldC (a3.add 11) w fun l6a l6n l6c => br (decide ((n5 : Int) < (l6n : Int))) (ldC (a3.add 11) w fun l7a l7n l7c => ixS 2 l7a l7n n5 fun a8 => ldI .u16 (a8.add 0) w fun n9 => br (decide ((n4 : Int) ≥ (IntKind.wrap .i64 (n9)))) (ldC (a3.add 11) w fun l10a l10n l10c => ixS 2 l10a l10n n5 fun a11 => ldI .u16 (a11.add 1) w fun n12 => br (decide ((n4 : Int) ≤ (IntKind.wrap .i64 (n12)))) (Calls Tryd.prog 20 #[(.pointer p1), (.int .u32 n2)] w fun e15 w14 => ∃ b13, e15 = .returned (.bool b13) ∧ (br b13 (Calls Tryd.prog 19 #[] w14 fun e18 w17 => ∃ b16, e18 = .returned (.bool b16) ∧ (Kr (.bool b16) w17)) (Kr (.bool false) w14))) (R (.pointer p1) (.int .u32 n2) (.pointer (some a3)) (.int .i64 n4) (.int .i64 (IntKind.wrap .i64 (n5 + 1))) w)) (R (.pointer p1) (.int .u32 n2) (.pointer (some a3)) (.int .i64 n4) (.int .i64 (IntKind.wrap .i64 (n5 + 1))) w)) (K2 w)
def F3_1 (K2 : World → Prop) (Kr : Value → World → Prop) : Nat → Value → Value → Value → Value → Value → World → Prop
  | 0 => fun _ _ _ _ _ _ => False
  | n + 1 => F3_1B (F3_1 K2 Kr n) K2 Kr
def F3_1O (Q : Post) (t : Tm) (w : World) : Prop := ∃ n, F3_1 (fun w => ∀ g, rsh [] (upds g []) fun t => Q (.exit 2) t w) (fun y8 w => ∀ g, rsh [(8, (.one .bool))] (upds g [(8, y8)]) fun t => Q .ret t w) n (t 9) (t 12) (t 19) (t 21) (t 22) w
theorem F3_1_step (K2 : World → Prop) (Kr : Value → World → Prop) (n : Nat) (t : Tm) (w : World) : (F3_1 K2 Kr (n + 1) (t 9) (t 12) (t 19) (t 21) (t 22) w) = rsh [(9, (.one .ptr)), (12, (.one (.int .u32))), (19, (.one .adr)), (21, (.one (.int .i64))), (22, (.one (.int .i64)))] t (fun t => vc Tryd.prog (orcOf []) [0, 0, 1, 0, 1, 1, 1, 1, 1, 1, 1, 1, 1, 1, 1, 1, 1] (getAt F3_code [0, 0, 1, 0, 1, 1, 1, 1, 1, 1, 1, 1, 1, 1, 1, 1, 1]) (fun o t w => match o with | .normal => F3_1 K2 Kr n (t 9) (t 12) (t 19) (t 21) (t 22) w | .exit i => F3_1C K2 Kr (.exit i) t w | .ret => F3_1C K2 Kr .ret t w) t w) := by kernel_rfl
theorem F3_1_ok : ∀ Q t w, F3_1O Q t w → W Tryd.prog Tryd.f3.ntmps (getAt F3_code [0, 1, 0, 1, 1, 1, 1, 1, 1, 1, 1, 1, 1, 1, 1, 1]) Q t w := by
  intro Q t w ⟨n, h⟩
  refine (W_loop (P := Tryd.prog) (b := getAt F3_code [0, 0, 1, 0, 1, 1, 1, 1, 1, 1, 1, 1, 1, 1, 1, 1, 1]) (Q := F3_1C (fun w => ∀ g, rsh [] (upds g []) fun t => Q (.exit 2) t w) (fun y8 w => ∀ g, rsh [(8, (.one .bool))] (upds g [(8, y8)]) fun t => Q .ret t w)) (G := fun n t w => F3_1 (fun w => ∀ g, rsh [] (upds g []) fun t => Q (.exit 2) t w) (fun y8 w => ∀ g, rsh [(8, (.one .bool))] (upds g [(8, y8)]) fun t => Q .ret t w) n (t 9) (t 12) (t 19) (t 21) (t 22) w) (fun _ _ h => h) (fun n t w h => ?_) n t w h).mono ?_
  · rw [F3_1_step] at h
    exact vc_sound mixed (orcNil F3_code) _ _ rfl (okC_at F3_code_ok [0, 0, 1, 0, 1, 1, 1, 1, 1, 1, 1, 1, 1, 1, 1, 1, 1]) _ _ _ (rsh_out h)
  · intro o t w q
    cases o with
    | normal => exact q.elim
    | exit i =>
      unfold F3_1C at q
      simp only at q
      split at q
      · rename_i hi
        rw [nbeq] at hi
        subst hi
        exact out_ok [] q
      · exact q.elim
    | ret => exact out_ok [8] q
def F3_2C (Kn : Value → Value → Value → Value → Value → Value → World → Prop) (Kr : Value → World → Prop) : Post := fun o t w => match o with | .normal => Kn (t 3) (t 9) (t 10) (t 12) (t 17) (t 18) w | .exit i => (False) | .ret => Kr (t 8) w
def F3_2 (Kn : Value → Value → Value → Value → Value → Value → World → Prop) (Kr : Value → World → Prop) (x3 : Value) (x9 : Value) (x10 : Value) (x12 : Value) (x17 : Value) (x18 : Value) (w : World) : Prop :=
  rdC x3 fun l1a l1n l1c => rdP x9 fun p2 => rdP x10 fun p3 => rdI .u32 x12 fun n4 => rdB x17 fun b5 => rdI .i64 x18 fun n6 => ixS 3 l1a l1n n6 fun a7 => ldI .i64 (a7.add 0) w fun n8 => ldC (a7.add 1) w fun l9a l9n l9c => ldI .i64 (a7.add 2) w fun n10 => Calls Tryd.prog 16 #[(.pointer p2), (.pointer p3), (.agg #[(.int .i64 n8), (.slice l9a l9n l9c), (.int .i64 n10)])] w fun e13 w12 => ∃ b11, e13 = .returned (.bool b11) ∧ (br (!b11) (Kr (.bool false) w12) (Kn (.slice l1a l1n l1c) (.pointer p2) (.pointer p3) (.int .u32 n4) (.bool b5) (.int .i64 (IntKind.wrap .i64 (n6 + 1))) w12))
def F3_2O (Q : Post) (t : Tm) (w : World) : Prop := F3_2 (fun y3 y9 y10 y12 y17 y18 w => ∀ g, rsh [(3, (.one .slc)), (9, (.one .ptr)), (10, (.one .ptr)), (12, (.one (.int .u32))), (17, (.one .bool)), (18, (.one (.int .i64)))] (upds g [(3, y3), (9, y9), (10, y10), (12, y12), (17, y17), (18, y18)]) fun t => Q .normal t w) (fun y8 w => ∀ g, rsh [(8, (.one .bool))] (upds g [(8, y8)]) fun t => Q .ret t w) (t 3) (t 9) (t 10) (t 12) (t 17) (t 18) w
theorem F3_2_step (Kn : Value → Value → Value → Value → Value → Value → World → Prop) (Kr : Value → World → Prop) (t : Tm) (w : World) : (F3_2 Kn Kr (t 3) (t 9) (t 10) (t 12) (t 17) (t 18) w) = rsh [(3, (.one .slc)), (9, (.one .ptr)), (10, (.one .ptr)), (12, (.one (.int .u32))), (17, (.one .bool)), (18, (.one (.int .i64)))] t (fun t => vc Tryd.prog (orcOf []) [1, 0, 0, 1, 0, 1, 1, 1, 1, 1, 1, 1, 1] (getAt F3_code [1, 0, 0, 1, 0, 1, 1, 1, 1, 1, 1, 1, 1]) (F3_2C Kn Kr) t w) := by kernel_rfl
theorem F3_2_ok : ∀ Q t w, F3_2O Q t w → W Tryd.prog Tryd.f3.ntmps (getAt F3_code [1, 0, 0, 1, 0, 1, 1, 1, 1, 1, 1, 1, 1]) Q t w := by
  intro Q t w h
  unfold F3_2O at h
  rw [F3_2_step] at h
  refine (vc_sound mixed (orcNil F3_code) _ _ rfl (okC_at F3_code_ok [1, 0, 0, 1, 0, 1, 1, 1, 1, 1, 1, 1, 1]) _ _ _ (rsh_out h)).mono ?_
  intro o t w q
  cases o with
  | normal => exact out_ok [3, 9, 10, 12, 17, 18] q
  | exit i => exact q.elim
  | ret => exact out_ok [8] q
def F3_3C (Kr : Value → World → Prop) : Post := fun o t w => match o with | .normal => False | .exit i => (False) | .ret => Kr (t 8) w
def F3_3 (Kr : Value → World → Prop) (x9 : Value) (x12 : Value) (x19 : Value) (x21 : Value) (w : World) : Prop :=
  rdP x9 fun p1 => rdI .u32 x12 fun n2 => rdA x19 fun a3 => rdI .i64 x21 fun n4 => ∃ k12 : Nat, F3_1 (fun w6 => ∀ _g7 : Tm, Kr (.bool false) w6) (fun y8_7 w9 => ∀ _g10 : Tm, rdB y8_7 fun b11 => Kr (.bool b11) w9) k12 (.pointer p1) (.int .u32 n2) (.pointer (some a3)) (.int .i64 n4) (.int .i64 0) w
def F3_3O (Q : Post) (t : Tm) (w : World) : Prop := F3_3 (fun y8 w => ∀ g, rsh [(8, (.one .bool))] (upds g [(8, y8)]) fun t => Q .ret t w) (t 9) (t 12) (t 19) (t 21) w
theorem F3_3_step (Kr : Value → World → Prop) (t : Tm) (w : World) : (F3_3 Kr (t 9) (t 12) (t 19) (t 21) w) = rsh [(9, (.one .ptr)), (12, (.one (.int .u32))), (19, (.one .adr)), (21, (.one (.int .i64)))] t (fun t => vc Tryd.prog (orcOf [([0, 1, 0, 1, 1, 1, 1, 1, 1, 1, 1, 1, 1, 1, 1, 1], F3_1O)]) [1, 1, 1, 1, 1, 1, 1, 1, 1, 1, 1, 1, 1] (getAt F3_code [1, 1, 1, 1, 1, 1, 1, 1, 1, 1, 1, 1, 1]) (F3_3C Kr) t w) := by kernel_rfl
theorem F3_3_ok : ∀ Q t w, F3_3O Q t w → W Tryd.prog Tryd.f3.ntmps (getAt F3_code [1, 1, 1, 1, 1, 1, 1, 1, 1, 1, 1, 1, 1]) Q t w := by
  intro Q t w h
  unfold F3_3O at h
  rw [F3_3_step] at h
  refine (vc_sound mixed (orcCons (π := [0, 1, 0, 1, 1, 1, 1, 1, 1, 1, 1, 1, 1, 1, 1, 1]) F3_1_ok (orcNil F3_code)) _ _ rfl (okC_at F3_code_ok [1, 1, 1, 1, 1, 1, 1, 1, 1, 1, 1, 1, 1]) _ _ _ (rsh_out h)).mono ?_
  intro o t w q
  cases o with
  | normal => exact q.elim
  | exit i => exact q.elim
  | ret => exact out_ok [8] q
def F3_4C (K0 : Value → Value → Value → World → Prop) (Kr : Value → World → Prop) : Post := fun o t w => match o with | .normal => False | .exit i => (match Nat.beq i 0 with | true => K0 (t 9) (t 12) (t 17) w | false => False) | .ret => Kr (t 8) w
def F3_4B (R : Value → Value → Value → Value → Value → Value → World → Prop) (K0 : Value → Value → Value → World → Prop) (Kr : Value → World → Prop) (x3 : Value) (x9 : Value) (x10 : Value) (x12 : Value) (x17 : Value) (x18 : Value) (w : World) : Prop :=
  rdC x3 fun l1a l1n l1c => rdP x9 fun p2 => rdP x10 fun p3 => rdI .u32 x12 fun n4 => rdB x17 fun b5 => rdI .i64 x18 fun n6 => br (decide ((n6 : Int) < (l1n : Int))) (br (decide ((n6 : Int) < 200)) (F3_2 (fun y3_6 y9_6 y10_6 y12_6 y17_6 y18_6 w8 => ∀ _g9 : Tm, rdC y3_6 fun l10a l10n l10c => rdP y9_6 fun p11 => rdP y10_6 fun p12 => rdI .u32 y12_6 fun n13 => rdB y17_6 fun b14 => rdI .i64 y18_6 fun n15 => R (.slice l10a l10n l10c) (.pointer p11) (.pointer p12) (.int .u32 n13) (.bool b14) (.int .i64 n15) w8) (fun y8_15 w17 => ∀ _g18 : Tm, rdB y8_15 fun b19 => Kr (.bool b19) w17) (.slice l1a l1n l1c) (.pointer p2) (.pointer p3) (.int .u32 n4) (.bool b5) (.int .i64 n6) w) (K0 (.pointer p2) (.int .u32 n4) (.bool b5) w)) (K0 (.pointer p2) (.int .u32 n4) (.bool b5) w)
def F3_4 (K0 : Value → Value → Value → World → Prop) (Kr : Value → World → Prop) : Nat → Value → Value → Value → Value → Value → Value → World → Prop
  | 0 => fun _ _ _ _ _ _ _ => False
  | n + 1 => F3_4B (F3_4 K0 Kr n) K0 Kr
def F3_4O (Q : Post) (t : Tm) (w : World) : Prop := ∃ n, F3_4 (fun y9 y12 y17 w => ∀ g, rsh [(9, (.one .ptr)), (12, (.one (.int .u32))), (17, (.one .bool))] (upds g [(9, y9), (12, y12), (17, y17)]) fun t => Q (.exit 0) t w) (fun y8 w => ∀ g, rsh [(8, (.one .bool))] (upds g [(8, y8)]) fun t => Q .ret t w) n (t 3) (t 9) (t 10) (t 12) (t 17) (t 18) w
theorem F3_4_step (K0 : Value → Value → Value → World → Prop) (Kr : Value → World → Prop) (n : Nat) (t : Tm) (w : World) : (F3_4 K0 Kr (n + 1) (t 3) (t 9) (t 10) (t 12) (t 17) (t 18) w) = rsh [(3, (.one .slc)), (9, (.one .ptr)), (10, (.one .ptr)), (12, (.one (.int .u32))), (17, (.one .bool)), (18, (.one (.int .i64)))] t (fun t => vc Tryd.prog (orcOf [([1, 0, 0, 1, 0, 1, 1, 1, 1, 1, 1, 1, 1], F3_2O)]) [0, 0, 1, 0, 1, 1, 1, 1, 1, 1, 1, 1] (getAt F3_code [0, 0, 1, 0, 1, 1, 1, 1, 1, 1, 1, 1]) (fun o t w => match o with | .normal => F3_4 K0 Kr n (t 3) (t 9) (t 10) (t 12) (t 17) (t 18) w | .exit i => F3_4C K0 Kr (.exit i) t w | .ret => F3_4C K0 Kr .ret t w) t w) := by kernel_rfl
theorem F3_4_ok : ∀ Q t w, F3_4O Q t w → W Tryd.prog Tryd.f3.ntmps (getAt F3_code [0, 1, 0, 1, 1, 1, 1, 1, 1, 1, 1]) Q t w := by
  intro Q t w ⟨n, h⟩
  refine (W_loop (P := Tryd.prog) (b := getAt F3_code [0, 0, 1, 0, 1, 1, 1, 1, 1, 1, 1, 1]) (Q := F3_4C (fun y9 y12 y17 w => ∀ g, rsh [(9, (.one .ptr)), (12, (.one (.int .u32))), (17, (.one .bool))] (upds g [(9, y9), (12, y12), (17, y17)]) fun t => Q (.exit 0) t w) (fun y8 w => ∀ g, rsh [(8, (.one .bool))] (upds g [(8, y8)]) fun t => Q .ret t w)) (G := fun n t w => F3_4 (fun y9 y12 y17 w => ∀ g, rsh [(9, (.one .ptr)), (12, (.one (.int .u32))), (17, (.one .bool))] (upds g [(9, y9), (12, y12), (17, y17)]) fun t => Q (.exit 0) t w) (fun y8 w => ∀ g, rsh [(8, (.one .bool))] (upds g [(8, y8)]) fun t => Q .ret t w) n (t 3) (t 9) (t 10) (t 12) (t 17) (t 18) w) (fun _ _ h => h) (fun n t w h => ?_) n t w h).mono ?_
  · rw [F3_4_step] at h
    exact vc_sound mixed (orcCons (π := [1, 0, 0, 1, 0, 1, 1, 1, 1, 1, 1, 1, 1]) F3_2_ok (orcNil F3_code)) _ _ rfl (okC_at F3_code_ok [0, 0, 1, 0, 1, 1, 1, 1, 1, 1, 1, 1]) _ _ _ (rsh_out h)
  · intro o t w q
    cases o with
    | normal => exact q.elim
    | exit i =>
      unfold F3_4C at q
      simp only at q
      split at q
      · rename_i hi
        rw [nbeq] at hi
        subst hi
        exact out_ok [9, 12, 17] q
      · exact q.elim
    | ret => exact out_ok [8] q
def F3_5C (Kr : Value → World → Prop) : Post := fun o t w => match o with | .normal => False | .exit i => (False) | .ret => Kr (t 8) w
def F3_5 (Kr : Value → World → Prop) (x3 : Value) (x9 : Value) (x10 : Value) (x12 : Value) (x17 : Value) (w : World) : Prop :=
  rdC x3 fun l1a l1n l1c => rdP x9 fun p2 => rdP x10 fun p3 => rdI .u32 x12 fun n4 => rdB x17 fun b5 => ∃ k65 : Nat, F3_4 (fun y9_5 y12_5 y17_5 w7 => ∀ _g8 : Tm, rdP y9_5 fun p9 => rdI .u32 y12_5 fun n10 => rdB y17_5 fun b11 => Calls Tryd.prog 17 #[(.pointer p9), (.int .u32 1), (.int .i64 4096)] w7 fun e29 w28 => ∃ n12 n13 n14 n15 n16 n17 n18 n19 n20 n21 l22a l22n l22c l23a l23n l23c l24a l24n l24c l25a l25n l25c l26a l26n l26c n27, e29 = .returned (.tuple #[(.agg #[(.int .u8 n12), (.int .u8 n13), (.int .u32 n14), (.int .u16 n15), (.int .u16 n16), (.int .u32 n17), (.int .u32 n18), (.int .u32 n19), (.int .u16 n20), (.int .u16 n21), (.slice l22a l22n l22c), (.slice l23a l23n l23c), (.slice l24a l24n l24c), (.slice l25a l25n l25c), (.slice l26a l26n l26c)]), (.int .i64 n27)]) ∧ (alc (.cells #[(.int .u8 0), (.int .u8 0), (.int .u32 0), (.int .u16 0), (.int .u16 0), (.int .u32 0), (.int .u32 0), (.int .u32 0), (.int .u16 0), (.int .u16 0), (.slice none 0 0), (.slice none 0 0), (.slice none 0 0), (.slice none 0 0), (.slice none 0 0)] 54) w28 fun b30 w31 => stc ((Addr.mk b30 0 none).add 0) (.int .u8 n12) w31 fun w32 => stc ((Addr.mk b30 0 none).add 1) (.int .u8 n13) w32 fun w33 => stc ((Addr.mk b30 0 none).add 2) (.int .u32 n14) w33 fun w34 => stc ((Addr.mk b30 0 none).add 3) (.int .u16 n15) w34 fun w35 => stc ((Addr.mk b30 0 none).add 4) (.int .u16 n16) w35 fun w36 => stc ((Addr.mk b30 0 none).add 5) (.int .u32 n17) w36 fun w37 => stc ((Addr.mk b30 0 none).add 6) (.int .u32 n18) w37 fun w38 => stc ((Addr.mk b30 0 none).add 7) (.int .u32 n19) w38 fun w39 => stc ((Addr.mk b30 0 none).add 8) (.int .u16 n20) w39 fun w40 => stc ((Addr.mk b30 0 none).add 9) (.int .u16 n21) w40 fun w41 => stc ((Addr.mk b30 0 none).add 10) (.slice l22a l22n l22c) w41 fun w42 => stc ((Addr.mk b30 0 none).add 11) (.slice l23a l23n l23c) w42 fun w43 => stc ((Addr.mk b30 0 none).add 12) (.slice l24a l24n l24c) w43 fun w44 => stc ((Addr.mk b30 0 none).add 13) (.slice l25a l25n l25c) w44 fun w45 => stc ((Addr.mk b30 0 none).add 14) (.slice l26a l26n l26c) w45 fun w46 => br (n27 != 0) (Kr (.bool false) w46) (ldI .u32 ((Addr.mk b30 0 none).add 2) w46 fun n47 => Calls Tryd.prog 18 #[(.int .u32 n47), (.int .u32 n10)] w46 fun e50 w49 => ∃ n48, e50 = .returned (.int .i64 n48) ∧ (br (!b11) (Calls Tryd.prog 19 #[] w49 fun e53 w52 => ∃ b51, e53 = .returned (.bool b51) ∧ (Kr (.bool b51) w52)) (br (decide ((n48 : Int) ≤ 0)) (Calls Tryd.prog 19 #[] w49 fun e56 w55 => ∃ b54, e56 = .returned (.bool b54) ∧ (Kr (.bool b54) w55)) (F3_3 (fun y8_56 w58 => ∀ _g59 : Tm, rdB y8_56 fun b60 => Kr (.bool b60) w58) (.pointer p9) (.int .u32 n10) (.pointer (some (Addr.mk b30 0 none))) (.int .i64 n48) w49)))))) (fun y8_60 w62 => ∀ _g63 : Tm, rdB y8_60 fun b64 => Kr (.bool b64) w62) k65 (.slice l1a l1n l1c) (.pointer p2) (.pointer p3) (.int .u32 n4) (.bool b5) (.int .i64 0) w
def F3_5O (Q : Post) (t : Tm) (w : World) : Prop := F3_5 (fun y8 w => ∀ g, rsh [(8, (.one .bool))] (upds g [(8, y8)]) fun t => Q .ret t w) (t 3) (t 9) (t 10) (t 12) (t 17) w
theorem F3_5_step (Kr : Value → World → Prop) (t : Tm) (w : World) : (F3_5 Kr (t 3) (t 9) (t 10) (t 12) (t 17) w) = rsh [(3, (.one .slc)), (9, (.one .ptr)), (10, (.one .ptr)), (12, (.one (.int .u32))), (17, (.one .bool))] t (fun t => vc Tryd.prog (orcOf [([0, 1, 0, 1, 1, 1, 1, 1, 1, 1, 1, 1, 1, 1, 1, 1], F3_1O), ([1, 0, 0, 1, 0, 1, 1, 1, 1, 1, 1, 1, 1], F3_2O), ([1, 1, 1, 1, 1, 1, 1, 1, 1, 1, 1, 1, 1], F3_3O), ([0, 1, 0, 1, 1, 1, 1, 1, 1, 1, 1], F3_4O)]) [1, 1, 1, 1, 1, 1, 1, 1] (getAt F3_code [1, 1, 1, 1, 1, 1, 1, 1]) (F3_5C Kr) t w) := by kernel_rfl
theorem F3_5_ok : ∀ Q t w, F3_5O Q t w → W Tryd.prog Tryd.f3.ntmps (getAt F3_code [1, 1, 1, 1, 1, 1, 1, 1]) Q t w := by
  intro Q t w h
  unfold F3_5O at h
  rw [F3_5_step] at h
  refine (vc_sound mixed (orcCons (π := [0, 1, 0, 1, 1, 1, 1, 1, 1, 1, 1, 1, 1, 1, 1, 1]) F3_1_ok (orcCons (π := [1, 0, 0, 1, 0, 1, 1, 1, 1, 1, 1, 1, 1]) F3_2_ok (orcCons (π := [1, 1, 1, 1, 1, 1, 1, 1, 1, 1, 1, 1, 1]) F3_3_ok (orcCons (π := [0, 1, 0, 1, 1, 1, 1, 1, 1, 1, 1]) F3_4_ok (orcNil F3_code))))) _ _ rfl (okC_at F3_code_ok [1, 1, 1, 1, 1, 1, 1, 1]) _ _ _ (rsh_out h)).mono ?_
  intro o t w q
  cases o with
  | normal => exact q.elim
  | exit i => exact q.elim
  | ret => exact out_ok [8] q
def F3_6C (Kr : Value → World → Prop) : Post := fun o t w => match o with | .normal => False | .exit i => (False) | .ret => Kr (t 8) w
def F3_6 (Kr : Value → World → Prop) (x3 : Value) (x9 : Value) (x10 : Value) (x12 : Value) (w : World) : Prop :=
  rdC x3 fun l1a l1n l1c => rdP x9 fun p2 => rdP x10 fun p3 => rdI .u32 x12 fun n4 => Calls Tryd.prog 14 #[(.pointer p3)] w fun e7 w6 => ∃ l5a l5n l5c, e7 = .returned (.slice l5a l5n l5c) ∧ (br (decide (((l5n : Int) : Int) > 0)) (nn p3 fun a8 => ldP (a8.add 0) w6 fun p9 => nn p9 fun a10 => ldI .u32 (a10.add 0) w6 fun n11 => Calls Tryd.prog 15 #[(.int .u32 n11), (.int .u32 n4)] w6 fun e14 w13 => ∃ b12, e14 = .returned (.bool b12) ∧ (F3_5 (fun y8_14 w16 => ∀ _g17 : Tm, rdB y8_14 fun b18 => Kr (.bool b18) w16) (.slice l1a l1n l1c) (.pointer p2) (.pointer p3) (.int .u32 n4) (.bool b12) w13)) (F3_5 (fun y8_18 w20 => ∀ _g21 : Tm, rdB y8_18 fun b22 => Kr (.bool b22) w20) (.slice l1a l1n l1c) (.pointer p2) (.pointer p3) (.int .u32 n4) (.bool false) w6))
def F3_6O (Q : Post) (t : Tm) (w : World) : Prop := F3_6 (fun y8 w => ∀ g, rsh [(8, (.one .bool))] (upds g [(8, y8)]) fun t => Q .ret t w) (t 3) (t 9) (t 10) (t 12) w
theorem F3_6_step (Kr : Value → World → Prop) (t : Tm) (w : World) : (F3_6 Kr (t 3) (t 9) (t 10) (t 12) w) = rsh [(3, (.one .slc)), (9, (.one .ptr)), (10, (.one .ptr)), (12, (.one (.int .u32)))] t (fun t => vc Tryd.prog (orcOf [([0, 1, 0, 1, 1, 1, 1, 1, 1, 1, 1, 1, 1, 1, 1, 1], F3_1O), ([1, 0, 0, 1, 0, 1, 1, 1, 1, 1, 1, 1, 1], F3_2O), ([1, 1, 1, 1, 1, 1, 1, 1, 1, 1, 1, 1, 1], F3_3O), ([0, 1, 0, 1, 1, 1, 1, 1, 1, 1, 1], F3_4O), ([1, 1, 1, 1, 1, 1, 1, 1], F3_5O)]) [1, 1, 1, 1, 1, 1, 1] (getAt F3_code [1, 1, 1, 1, 1, 1, 1]) (F3_6C Kr) t w) := by kernel_rfl
theorem F3_6_ok : ∀ Q t w, F3_6O Q t w → W Tryd.prog Tryd.f3.ntmps (getAt F3_code [1, 1, 1, 1, 1, 1, 1]) Q t w := by
  intro Q t w h
  unfold F3_6O at h
  rw [F3_6_step] at h
  refine (vc_sound mixed (orcCons (π := [0, 1, 0, 1, 1, 1, 1, 1, 1, 1, 1, 1, 1, 1, 1, 1]) F3_1_ok (orcCons (π := [1, 0, 0, 1, 0, 1, 1, 1, 1, 1, 1, 1, 1]) F3_2_ok (orcCons (π := [1, 1, 1, 1, 1, 1, 1, 1, 1, 1, 1, 1, 1]) F3_3_ok (orcCons (π := [0, 1, 0, 1, 1, 1, 1, 1, 1, 1, 1]) F3_4_ok (orcCons (π := [1, 1, 1, 1, 1, 1, 1, 1]) F3_5_ok (orcNil F3_code)))))) _ _ rfl (okC_at F3_code_ok [1, 1, 1, 1, 1, 1, 1]) _ _ _ (rsh_out h)).mono ?_
  intro o t w q
  cases o with
  | normal => exact q.elim
  | exit i => exact q.elim
  | ret => exact out_ok [8] q
def F3_7C (Kr : Value → World → Prop) : Post := fun o t w => match o with | .normal => False | .exit i => (False) | .ret => Kr (t 8) w
def F3_7 (Kr : Value → World → Prop) (x2 : Value) (x3 : Value) (x9 : Value) (x10 : Value) (w : World) : Prop :=
  rdI .u16 x2 fun n1 => rdC x3 fun l2a l2n l2c => rdP x9 fun p3 => rdP x10 fun p4 => nn p4 fun a5 => ldP (a5.add 0) w fun p6 => nn p6 fun a7 => ldI .u32 (a7.add 0) w fun n8 => Calls Tryd.prog 9 #[(.int .u32 n8), (.int .u32 (IntKind.wrap .u32 (n1)))] w fun e11 w10 => ∃ n9, e11 = .returned (.int .u32 n9) ∧ (Calls Tryd.prog 10 #[(.pointer p3), (.int .u32 n9)] w10 fun e15 w14 => ∃ b12 n13, e15 = .returned (.tuple #[(.bool b12), (.int .i64 n13)]) ∧ (Calls Tryd.prog 11 #[(.pointer p4), (.int .u32 n9)] w14 fun e19 w18 => ∃ b16 n17, e19 = .returned (.tuple #[(.bool b16), (.int .i64 n17)]) ∧ (br (!(b12 == b16)) (Kr (.bool false) w18) (alc (.cells #[(.int .u32 n9)] 22) w18 fun b20 w21 => Calls Tryd.prog 12 #[(.pointer p3), (.slice (some (Addr.mk b20 0 none)) 1 1)] w21 fun e24 w23 => ∃ n22, e24 = .returned (.int .i64 n22) ∧ (alc (.cells #[(.int .u32 n9)] 22) w23 fun b25 w26 => Calls Tryd.prog 13 #[(.pointer p4), (.slice (some (Addr.mk b25 0 none)) 1 1)] w26 fun e29 w28 => ∃ n27, e29 = .returned (.int .i64 n27) ∧ (br (n22 != n27) (Kr (.bool false) w28) (F3_6 (fun y8_29 w31 => ∀ _g32 : Tm, rdB y8_29 fun b33 => Kr (.bool b33) w31) (.slice l2a l2n l2c) (.pointer p3) (.pointer p4) (.int .u32 n9) w28)))))))
def F3_7O (Q : Post) (t : Tm) (w : World) : Prop := F3_7 (fun y8 w => ∀ g, rsh [(8, (.one .bool))] (upds g [(8, y8)]) fun t => Q .ret t w) (t 2) (t 3) (t 9) (t 10) w
theorem F3_7_step (Kr : Value → World → Prop) (t : Tm) (w : World) : (F3_7 Kr (t 2) (t 3) (t 9) (t 10) w) = rsh [(2, (.one (.int .u16))), (3, (.one .slc)), (9, (.one .ptr)), (10, (.one .ptr))] t (fun t => vc Tryd.prog (orcOf [([0, 1, 0, 1, 1, 1, 1, 1, 1, 1, 1, 1, 1, 1, 1, 1], F3_1O), ([1, 0, 0, 1, 0, 1, 1, 1, 1, 1, 1, 1, 1], F3_2O), ([1, 1, 1, 1, 1, 1, 1, 1, 1, 1, 1, 1, 1], F3_3O), ([0, 1, 0, 1, 1, 1, 1, 1, 1, 1, 1], F3_4O), ([1, 1, 1, 1, 1, 1, 1, 1], F3_5O), ([1, 1, 1, 1, 1, 1, 1], F3_6O)]) [1, 1, 1] (getAt F3_code [1, 1, 1]) (F3_7C Kr) t w) := by kernel_rfl
theorem F3_7_ok : ∀ Q t w, F3_7O Q t w → W Tryd.prog Tryd.f3.ntmps (getAt F3_code [1, 1, 1]) Q t w := by
  intro Q t w h
  unfold F3_7O at h
  rw [F3_7_step] at h
  refine (vc_sound mixed (orcCons (π := [0, 1, 0, 1, 1, 1, 1, 1, 1, 1, 1, 1, 1, 1, 1, 1]) F3_1_ok (orcCons (π := [1, 0, 0, 1, 0, 1, 1, 1, 1, 1, 1, 1, 1]) F3_2_ok (orcCons (π := [1, 1, 1, 1, 1, 1, 1, 1, 1, 1, 1, 1, 1]) F3_3_ok (orcCons (π := [0, 1, 0, 1, 1, 1, 1, 1, 1, 1, 1]) F3_4_ok (orcCons (π := [1, 1, 1, 1, 1, 1, 1, 1]) F3_5_ok (orcCons (π := [1, 1, 1, 1, 1, 1, 1]) F3_6_ok (orcNil F3_code))))))) _ _ rfl (okC_at F3_code_ok [1, 1, 1]) _ _ _ (rsh_out h)).mono ?_
  intro o t w q
  cases o with
  | normal => exact q.elim
  | exit i => exact q.elim
  | ret => exact out_ok [8] q
def F3 (x0 : Value) (x1 : Value) (x2 : Value) (x3 : Value) (w : World) (K : Value → World → Prop) : Prop :=
  rdI .u32 x0 fun n1 => rdC x1 fun l2a l2n l2c => rdI .u16 x2 fun n3 => rdC x3 fun l4a l4n l4c => Calls Tryd.prog 8 #[(.int .u32 n1), (.int .i64 0), (.bool true), (.slice l2a l2n l2c)] w fun e9 w8 => ∃ p5 p6 b7, e9 = .returned (.tuple #[(.pointer p5), (.pointer p6), (.bool b7)]) ∧ (br (!b7) (K (.bool false) w8) (br (Option.isNone p5) (K (.bool false) w8) (F3_7 (fun y8_9 w11 => ∀ _g12 : Tm, rdB y8_9 fun b13 => K (.bool b13) w11) (.int .u16 n3) (.slice l4a l4n l4c) (.pointer p5) (.pointer p6) w8)))
theorem F3_step (x0 : Value) (x1 : Value) (x2 : Value) (x3 : Value) (w : World) (K : Value → World → Prop) : (F3 x0 x1 x2 x3 w K) = rsh [(0, (.one (.int .u32))), (1, (.one .slc)), (2, (.one (.int .u16))), (3, (.one .slc))] (args0 #[x0, x1, x2, x3]) (fun t => vc Tryd.prog (orcOf [([0, 1, 0, 1, 1, 1, 1, 1, 1, 1, 1, 1, 1, 1, 1, 1], F3_1O), ([1, 0, 0, 1, 0, 1, 1, 1, 1, 1, 1, 1, 1], F3_2O), ([1, 1, 1, 1, 1, 1, 1, 1, 1, 1, 1, 1, 1], F3_3O), ([0, 1, 0, 1, 1, 1, 1, 1, 1, 1, 1], F3_4O), ([1, 1, 1, 1, 1, 1, 1, 1], F3_5O), ([1, 1, 1, 1, 1, 1, 1], F3_6O), ([1, 1, 1], F3_7O)]) [] F3_code (retQ Tryd.prog Tryd.f3 K) t w) := by kernel_rfl
theorem F3_ok {x0 x1 x2 x3 : Value} {w : World} {K : Value → World → Prop} (h : F3 x0 x1 x2 x3 w K) : Calls Tryd.prog 3 #[x0, x1, x2, x3] w fun e w' => ∃ v, e = .returned v ∧ K v w' := by
  rw [F3_step] at h
  exact calls_of (c := F3_code) mixed Tryd.func3 rfl (nlt rfl) (vc_sound mixed (orcCons (π := [0, 1, 0, 1, 1, 1, 1, 1, 1, 1, 1, 1, 1, 1, 1, 1]) F3_1_ok (orcCons (π := [1, 0, 0, 1, 0, 1, 1, 1, 1, 1, 1, 1, 1]) F3_2_ok (orcCons (π := [1, 1, 1, 1, 1, 1, 1, 1, 1, 1, 1, 1, 1]) F3_3_ok (orcCons (π := [0, 1, 0, 1, 1, 1, 1, 1, 1, 1, 1]) F3_4_ok (orcCons (π := [1, 1, 1, 1, 1, 1, 1, 1]) F3_5_ok (orcCons (π := [1, 1, 1, 1, 1, 1, 1]) F3_6_ok (orcCons (π := [1, 1, 1]) F3_7_ok (orcNil F3_code)))))))) F3_code [] rfl F3_code_ok _ _ _ (rsh_out h))

/-! ropewalk/ropewalklaw19.InboxSecond -/
noncomputable def F4_code : Code := Tryd.f4.body.getD .skip
theorem F4_code_ok : okC Tryd.prog Tryd.f4.ntmps F4_code = true := by kernel_rfl
def F4_1C (Kn : Value → Value → Value → Value → Value → World → Prop) (Kr : Value → World → Prop) : Post := fun o t w => match o with | .normal => Kn (t 4) (t 14) (t 15) (t 16) (t 17) w | .exit i => (False) | .ret => Kr (t 10) w
def F4_1 (Kn : Value → Value → Value → Value → Value → World → Prop) (Kr : Value → World → Prop) (x4 : Value) (x14 : Value) (x15 : Value) (x16 : Value) (x17 : Value) (x48 : Value) (w : World) : Prop :=
  rdI .i64 x4 fun n1 => rdI .i64 x14 fun n2 => rdI .i64 x15 fun n3 => rdI .i64 x16 fun n4 => rdB x17 fun b5 => rdB x48 fun b6 => br b6 (br (n2 == 1) (br (n3 == 1) (Calls Tryd.prog 19 #[] w fun e9 w8 => ∃ b7, e9 = .returned (.bool b7) ∧ (Kr (.bool b7) w8)) (Kr (.bool false) w)) (Kr (.bool false) w)) (Kn (.int .i64 n1) (.int .i64 n2) (.int .i64 n3) (.int .i64 n4) (.bool b5) w)
def F4_1O (Q : Post) (t : Tm) (w : World) : Prop := F4_1 (fun y4 y14 y15 y16 y17 w => ∀ g, rsh [(4, (.one (.int .i64))), (14, (.one (.int .i64))), (15, (.one (.int .i64))), (16, (.one (.int .i64))), (17, (.one .bool))] (upds g [(4, y4), (14, y14), (15, y15), (16, y16), (17, y17)]) fun t => Q .normal t w) (fun y10 w => ∀ g, rsh [(10, (.one .bool))] (upds g [(10, y10)]) fun t => Q .ret t w) (t 4) (t 14) (t 15) (t 16) (t 17) (t 48) w
theorem F4_1_step (Kn : Value → Value → Value → Value → Value → World → Prop) (Kr : Value → World → Prop) (t : Tm) (w : World) : (F4_1 Kn Kr (t 4) (t 14) (t 15) (t 16) (t 17) (t 48) w) = rsh [(4, (.one (.int .i64))), (14, (.one (.int .i64))), (15, (.one (.int .i64))), (16, (.one (.int .i64))), (17, (.one .bool)), (48, (.one .bool))] t (fun t => vc Tryd.prog (orcOf []) [1, 0, 1, 1, 1, 1, 1, 1, 1] (getAt F4_code [1, 0, 1, 1, 1, 1, 1, 1, 1]) (F4_1C Kn Kr) t w) := by kernel_rfl
theorem F4_1_ok : ∀ Q t w, F4_1O Q t w → W Tryd.prog Tryd.f4.ntmps (getAt F4_code [1, 0, 1, 1, 1, 1, 1, 1, 1]) Q t w := by
  intro Q t w h
  unfold F4_1O at h
  rw [F4_1_step] at h
  refine (vc_sound mixed (orcNil F4_code) _ _ rfl (okC_at F4_code_ok [1, 0, 1, 1, 1, 1, 1, 1, 1]) _ _ _ (rsh_out h)).mono ?_
  intro o t w q
  cases o with
  | normal => exact out_ok [4, 14, 15, 16, 17] q
  | exit i => exact q.elim
  | ret => exact out_ok [10] q
def F4 (x0 : Value) (x1 : Value) (x2 : Value) (x3 : Value) (x4 : Value) (w : World) (K : Value → World → Prop) : Prop :=
  rdI .u32 x0 fun n1 => rdI .i64 x1 fun n2 => rdB x2 fun b3 => rdC x3 fun l4a l4n l4c => rdI .i64 x4 fun n5 => Calls Tryd.prog 8 #[(.int .u32 n1), (.int .i64 n2), (.bool b3), (.slice l4a l4n l4c)] w fun e10 w9 => ∃ p6 p7 b8, e10 = .returned (.tuple #[(.pointer p6), (.pointer p7), (.bool b8)]) ∧ (br (!b8) (K (.bool false) w9) (br (Option.isNone p6) (Calls Tryd.prog 19 #[] w9 fun e13 w12 => ∃ b11, e13 = .returned (.bool b11) ∧ (K (.bool b11) w12)) (Calls Tryd.prog 21 #[(.pointer p6), (.int .i64 n5)] w9 fun e16 w15 => ∃ n14, e16 = .returned (.int .i64 n14) ∧ (Calls Tryd.prog 21 #[(.pointer p6), (.int .i64 n5)] w15 fun e19 w18 => ∃ n17, e19 = .returned (.int .i64 n17) ∧ (Calls Tryd.prog 22 #[(.pointer p6)] w18 fun e23 w22 => ∃ n20 b21, e23 = .returned (.tuple #[(.int .i64 n20), (.bool b21)]) ∧ (br (decide ((n5 : Int) < 0)) (F4_1 (fun y4_23 y14_23 y15_23 y16_23 y17_23 w25 => ∀ _g26 : Tm, rdI .i64 y4_23 fun n27 => rdI .i64 y14_23 fun n28 => rdI .i64 y15_23 fun n29 => rdI .i64 y16_23 fun n30 => rdB y17_23 fun b31 => br (n28 == 0) (br (n29 == 0) (br b31 (br (n30 == n27) (Calls Tryd.prog 19 #[] w25 fun e34 w33 => ∃ b32, e34 = .returned (.bool b32) ∧ (K (.bool b32) w33)) (K (.bool false) w25)) (K (.bool false) w25)) (K (.bool false) w25)) (K (.bool false) w25)) (fun y10_34 w36 => ∀ _g37 : Tm, rdB y10_34 fun b38 => K (.bool b38) w36) (.int .i64 n5) (.int .i64 n14) (.int .i64 n17) (.int .i64 n20) (.bool b21) (.bool true) w22) (F4_1 (fun y4_38 y14_38 y15_38 y16_38 y17_38 w40 => ∀ _g41 : Tm, rdI .i64 y4_38 fun n42 => rdI .i64 y14_38 fun n43 => rdI .i64 y15_38 fun n44 => rdI .i64 y16_38 fun n45 => rdB y17_38 fun b46 => br (n43 == 0) (br (n44 == 0) (br b46 (br (n45 == n42) (Calls Tryd.prog 19 #[] w40 fun e49 w48 => ∃ b47, e49 = .returned (.bool b47) ∧ (K (.bool b47) w48)) (K (.bool false) w40)) (K (.bool false) w40)) (K (.bool false) w40)) (K (.bool false) w40)) (fun y10_49 w51 => ∀ _g52 : Tm, rdB y10_49 fun b53 => K (.bool b53) w51) (.int .i64 n5) (.int .i64 n14) (.int .i64 n17) (.int .i64 n20) (.bool b21) (.bool (decide ((n5 : Int) > 1099511627776))) w22)))))))
theorem F4_step (x0 : Value) (x1 : Value) (x2 : Value) (x3 : Value) (x4 : Value) (w : World) (K : Value → World → Prop) : (F4 x0 x1 x2 x3 x4 w K) = rsh [(0, (.one (.int .u32))), (1, (.one (.int .i64))), (2, (.one .bool)), (3, (.one .slc)), (4, (.one (.int .i64)))] (args0 #[x0, x1, x2, x3, x4]) (fun t => vc Tryd.prog (orcOf [([1, 0, 1, 1, 1, 1, 1, 1, 1], F4_1O)]) [] F4_code (retQ Tryd.prog Tryd.f4 K) t w) := by kernel_rfl
theorem F4_ok {x0 x1 x2 x3 x4 : Value} {w : World} {K : Value → World → Prop} (h : F4 x0 x1 x2 x3 x4 w K) : Calls Tryd.prog 4 #[x0, x1, x2, x3, x4] w fun e w' => ∃ v, e = .returned v ∧ K v w' := by
  rw [F4_step] at h
  exact calls_of (c := F4_code) mixed Tryd.func4 rfl (nlt rfl) (vc_sound mixed (orcCons (π := [1, 0, 1, 1, 1, 1, 1, 1, 1]) F4_1_ok (orcNil F4_code)) F4_code [] rfl F4_code_ok _ _ _ (rsh_out h))

/-! ropewalk/ropewalklaw19.InboxTrue -/
noncomputable def F5_code : Code := Tryd.f5.body.getD .skip
theorem F5_code_ok : okC Tryd.prog Tryd.f5.ntmps F5_code = true := by kernel_rfl
def F5_1C (Kr : Value → World → Prop) : Post := fun o t w => match o with | .normal => False | .exit i => (False) | .ret => Kr (t 8) w
def F5_1 (Kr : Value → World → Prop) (x9 : Value) (x14 : Value) (w : World) : Prop :=
  rdP x9 fun p1 => rdP x14 fun p2 => drw w fun w3 => ∃ w4 : World, Pres w4 w3 ∧ (nn p2 fun a5 => ldI .u32 (a5.add 0) w4 fun n6 => Calls Tryd.prog 24 #[(.pointer p1)] w3 fun e9 w8 => ∃ n7, e9 = .returned (.int .u32 n7) ∧ (Pres w4 w8 ∧ (br (n6 == n7) (Calls Tryd.prog 26 #[(.pointer p2)] w8 fun e12 w11 => ∃ l10a l10n l10c, e12 = .returned (.slice l10a l10n l10c) ∧ (Calls Tryd.prog 27 #[(.pointer p1)] w11 fun e15 w14 => ∃ l13a l13n l13c, e15 = .returned (.slice l13a l13n l13c) ∧ (Calls Tryd.prog 25 #[(.slice l10a l10n l10c), (.slice l13a l13n l13c)] w14 fun e18 w17 => ∃ b16, e18 = .returned (.bool b16) ∧ (br b16 (Calls Tryd.prog 19 #[] w17 fun e21 w20 => ∃ b19, e21 = .returned (.bool b19) ∧ (Kr (.bool b19) w20)) (Kr (.bool false) w17))))) (Kr (.bool false) w8))))
def F5_1O (Q : Post) (t : Tm) (w : World) : Prop := F5_1 (fun y8 w => ∀ g, rsh [(8, (.one .bool))] (upds g [(8, y8)]) fun t => Q .ret t w) (t 9) (t 14) w
theorem F5_1_step (Kr : Value → World → Prop) (t : Tm) (w : World) : (F5_1 Kr (t 9) (t 14) w) = rsh [(9, (.one .ptr)), (14, (.one .ptr))] t (fun t => vc Tryd.prog (orcOf []) [1, 1, 1, 1, 1, 1, 1] (getAt F5_code [1, 1, 1, 1, 1, 1, 1]) (F5_1C Kr) t w) := by kernel_rfl
theorem F5_1_ok : ∀ Q t w, F5_1O Q t w → W Tryd.prog Tryd.f5.ntmps (getAt F5_code [1, 1, 1, 1, 1, 1, 1]) Q t w := by
  intro Q t w h
  unfold F5_1O at h
  rw [F5_1_step] at h
  refine (vc_sound mixed (orcNil F5_code) _ _ rfl (okC_at F5_code_ok [1, 1, 1, 1, 1, 1, 1]) _ _ _ (rsh_out h)).mono ?_
  intro o t w q
  cases o with
  | normal => exact q.elim
  | exit i => exact q.elim
  | ret => exact out_ok [8] q
def F5 (x0 : Value) (x1 : Value) (x2 : Value) (x3 : Value) (w : World) (K : Value → World → Prop) : Prop :=
  rdI .u32 x0 fun n1 => rdI .i64 x1 fun n2 => rdB x2 fun b3 => rdC x3 fun l4a l4n l4c => Calls Tryd.prog 8 #[(.int .u32 n1), (.int .i64 n2), (.bool b3), (.slice l4a l4n l4c)] w fun e9 w8 => ∃ p5 p6 b7, e9 = .returned (.tuple #[(.pointer p5), (.pointer p6), (.bool b7)]) ∧ (br (!b7) (K (.bool false) w8) (br (Option.isNone p5) (Calls Tryd.prog 19 #[] w8 fun e12 w11 => ∃ b10, e12 = .returned (.bool b10) ∧ (K (.bool b10) w11)) (Calls Tryd.prog 17 #[(.pointer p5), (.int .u32 1), (.int .i64 4096)] w8 fun e30 w29 => ∃ n13 n14 n15 n16 n17 n18 n19 n20 n21 n22 l23a l23n l23c l24a l24n l24c l25a l25n l25c l26a l26n l26c l27a l27n l27c n28, e30 = .returned (.tuple #[(.agg #[(.int .u8 n13), (.int .u8 n14), (.int .u32 n15), (.int .u16 n16), (.int .u16 n17), (.int .u32 n18), (.int .u32 n19), (.int .u32 n20), (.int .u16 n21), (.int .u16 n22), (.slice l23a l23n l23c), (.slice l24a l24n l24c), (.slice l25a l25n l25c), (.slice l26a l26n l26c), (.slice l27a l27n l27c)]), (.int .i64 n28)]) ∧ (alc (.cells #[(.int .u8 0), (.int .u8 0), (.int .u32 0), (.int .u16 0), (.int .u16 0), (.int .u32 0), (.int .u32 0), (.int .u32 0), (.int .u16 0), (.int .u16 0), (.slice none 0 0), (.slice none 0 0), (.slice none 0 0), (.slice none 0 0), (.slice none 0 0)] 54) w29 fun b31 w32 => stc ((Addr.mk b31 0 none).add 0) (.int .u8 n13) w32 fun w33 => stc ((Addr.mk b31 0 none).add 1) (.int .u8 n14) w33 fun w34 => stc ((Addr.mk b31 0 none).add 2) (.int .u32 n15) w34 fun w35 => stc ((Addr.mk b31 0 none).add 3) (.int .u16 n16) w35 fun w36 => stc ((Addr.mk b31 0 none).add 4) (.int .u16 n17) w36 fun w37 => stc ((Addr.mk b31 0 none).add 5) (.int .u32 n18) w37 fun w38 => stc ((Addr.mk b31 0 none).add 6) (.int .u32 n19) w38 fun w39 => stc ((Addr.mk b31 0 none).add 7) (.int .u32 n20) w39 fun w40 => stc ((Addr.mk b31 0 none).add 8) (.int .u16 n21) w40 fun w41 => stc ((Addr.mk b31 0 none).add 9) (.int .u16 n22) w41 fun w42 => stc ((Addr.mk b31 0 none).add 10) (.slice l23a l23n l23c) w42 fun w43 => stc ((Addr.mk b31 0 none).add 11) (.slice l24a l24n l24c) w43 fun w44 => stc ((Addr.mk b31 0 none).add 12) (.slice l25a l25n l25c) w44 fun w45 => stc ((Addr.mk b31 0 none).add 13) (.slice l26a l26n l26c) w45 fun w46 => stc ((Addr.mk b31 0 none).add 14) (.slice l27a l27n l27c) w46 fun w47 => drw w47 fun w48 => ldI .u32 ((Addr.mk b31 0 none).add 2) w48 fun n49 => ldC ((Addr.mk b31 0 none).add 10) w48 fun l50a l50n l50c => ldC ((Addr.mk b31 0 none).add 11) w48 fun l51a l51n l51c => ∃ l52a l52n l52c w53, Sem.run Tryd.prog (Instr.buildSlice 50 0 #[]) w48 = .ok (.slice l52a l52n l52c) w53 ∧ (Pres w48 w53 ∧ (∃ l54a l54n l54c w55, Sem.run Tryd.prog (Builtin.append_ #[50, 50] 50 #[(.slice l52a l52n l52c), (.slice l50a l50n l50c)]) w53 = .ok (.slice l54a l54n l54c) w55 ∧ (Pres w48 w55 ∧ (∃ l56a l56n l56c w57, Sem.run Tryd.prog (Builtin.append_ #[50, 50] 50 #[(.slice l54a l54n l54c), (.slice l51a l51n l51c)]) w55 = .ok (.slice l56a l56n l56c) w57 ∧ (Pres w48 w57 ∧ (Calls Tryd.prog 23 #[(.int .u32 n49), (.slice l56a l56n l56c)] w57 fun e61 w60 => ∃ p58 n59, e61 = .returned (.tuple #[(.pointer p58), (.int .i64 n59)]) ∧ (br (n28 != 0) (K (.bool false) w60) (br (n59 != 0) (K (.bool false) w60) (F5_1 (fun y8_61 w63 => ∀ _g64 : Tm, rdB y8_61 fun b65 => K (.bool b65) w63) (.pointer p5) (.pointer p58) w60)))))))))))))
theorem F5_step (x0 : Value) (x1 : Value) (x2 : Value) (x3 : Value) (w : World) (K : Value → World → Prop) : (F5 x0 x1 x2 x3 w K) = rsh [(0, (.one (.int .u32))), (1, (.one (.int .i64))), (2, (.one .bool)), (3, (.one .slc))] (args0 #[x0, x1, x2, x3]) (fun t => vc Tryd.prog (orcOf [([1, 1, 1, 1, 1, 1, 1], F5_1O)]) [] F5_code (retQ Tryd.prog Tryd.f5 K) t w) := by kernel_rfl
theorem F5_ok {x0 x1 x2 x3 : Value} {w : World} {K : Value → World → Prop} (h : F5 x0 x1 x2 x3 w K) : Calls Tryd.prog 5 #[x0, x1, x2, x3] w fun e w' => ∃ v, e = .returned v ∧ K v w' := by
  rw [F5_step] at h
  exact calls_of (c := F5_code) mixed Tryd.func5 rfl (nlt rfl) (vc_sound mixed (orcCons (π := [1, 1, 1, 1, 1, 1, 1]) F5_1_ok (orcNil F5_code)) F5_code [] rfl F5_code_ok _ _ _ (rsh_out h))

/-! ropewalk/ropewalklaw19.InboxRuns -/
noncomputable def F6_code : Code := Tryd.f6.body.getD .skip
theorem F6_code_ok : okC Tryd.prog Tryd.f6.ntmps F6_code = true := by kernel_rfl
def F6_1C (Kn : Value → Value → Value → Value → World → Prop) (Kr : Value → World → Prop) : Post := fun o t w => match o with | .normal => Kn (t 3) (t 9) (t 11) (t 13) w | .exit i => (False) | .ret => Kr (t 8) w
def F6_1 (Kn : Value → Value → Value → Value → World → Prop) (Kr : Value → World → Prop) (x3 : Value) (x9 : Value) (x11 : Value) (x13 : Value) (w : World) : Prop :=
  rdC x3 fun l1a l1n l1c => rdP x9 fun p2 => rdP x11 fun p3 => rdI .i64 x13 fun n4 => ixS 3 l1a l1n n4 fun a5 => ldI .i64 (a5.add 0) w fun n6 => ldC (a5.add 1) w fun l7a l7n l7c => ldI .i64 (a5.add 2) w fun n8 => Calls Tryd.prog 16 #[(.pointer p2), (.pointer p3), (.agg #[(.int .i64 n6), (.slice l7a l7n l7c), (.int .i64 n8)])] w fun e11 w10 => ∃ b9, e11 = .returned (.bool b9) ∧ (br (!b9) (Kr (.bool false) w10) (Calls Tryd.prog 30 #[(.pointer p2), (.pointer p3)] w10 fun e14 w13 => ∃ b12, e14 = .returned (.bool b12) ∧ (br (!b12) (Kr (.bool false) w13) (Kn (.slice l1a l1n l1c) (.pointer p2) (.pointer p3) (.int .i64 (IntKind.wrap .i64 (n4 + 1))) w13))))
def F6_1O (Q : Post) (t : Tm) (w : World) : Prop := F6_1 (fun y3 y9 y11 y13 w => ∀ g, rsh [(3, (.one .slc)), (9, (.one .ptr)), (11, (.one .ptr)), (13, (.one (.int .i64)))] (upds g [(3, y3), (9, y9), (11, y11), (13, y13)]) fun t => Q .normal t w) (fun y8 w => ∀ g, rsh [(8, (.one .bool))] (upds g [(8, y8)]) fun t => Q .ret t w) (t 3) (t 9) (t 11) (t 13) w
theorem F6_1_step (Kn : Value → Value → Value → Value → World → Prop) (Kr : Value → World → Prop) (t : Tm) (w : World) : (F6_1 Kn Kr (t 3) (t 9) (t 11) (t 13) w) = rsh [(3, (.one .slc)), (9, (.one .ptr)), (11, (.one .ptr)), (13, (.one (.int .i64)))] t (fun t => vc Tryd.prog (orcOf []) [1, 0, 0, 1, 0, 1, 1, 1, 1, 1] (getAt F6_code [1, 0, 0, 1, 0, 1, 1, 1, 1, 1]) (F6_1C Kn Kr) t w) := by kernel_rfl
theorem F6_1_ok : ∀ Q t w, F6_1O Q t w → W Tryd.prog Tryd.f6.ntmps (getAt F6_code [1, 0, 0, 1, 0, 1, 1, 1, 1, 1]) Q t w := by
  intro Q t w h
  unfold F6_1O at h
  rw [F6_1_step] at h
  refine (vc_sound mixed (orcNil F6_code) _ _ rfl (okC_at F6_code_ok [1, 0, 0, 1, 0, 1, 1, 1, 1, 1]) _ _ _ (rsh_out h)).mono ?_
  intro o t w q
  cases o with
  | normal => exact out_ok [3, 9, 11, 13] q
  | exit i => exact q.elim
  | ret => exact out_ok [8] q
def F6_2C (K0 : Value → Value → World → Prop) (Kr : Value → World → Prop) : Post := fun o t w => match o with | .normal => False | .exit i => (match Nat.beq i 0 with | true => K0 (t 9) (t 11) w | false => False) | .ret => Kr (t 8) w
def F6_2B (R : Value → Value → Value → Value → World → Prop) (K0 : Value → Value → World → Prop) (Kr : Value → World → Prop) (x3 : Value) (x9 : Value) (x11 : Value) (x13 : Value) (w : World) : Prop :=
  rdC x3 fun l1a l1n l1c => rdP x9 fun p2 => rdP x11 fun p3 => rdI .i64 x13 fun n4 => br (decide ((n4 : Int) < (l1n : Int))) (br (decide ((n4 : Int) < 200)) (F6_1 (fun y3_4 y9_4 y11_4 y13_4 w6 => ∀ _g7 : Tm, rdC y3_4 fun l8a l8n l8c => rdP y9_4 fun p9 => rdP y11_4 fun p10 => rdI .i64 y13_4 fun n11 => R (.slice l8a l8n l8c) (.pointer p9) (.pointer p10) (.int .i64 n11) w6) (fun y8_11 w13 => ∀ _g14 : Tm, rdB y8_11 fun b15 => Kr (.bool b15) w13) (.slice l1a l1n l1c) (.pointer p2) (.pointer p3) (.int .i64 n4) w) (K0 (.pointer p2) (.pointer p3) w)) (K0 (.pointer p2) (.pointer p3) w)
def F6_2 (K0 : Value → Value → World → Prop) (Kr : Value → World → Prop) : Nat → Value → Value → Value → Value → World → Prop
  | 0 => fun _ _ _ _ _ => False
  | n + 1 => F6_2B (F6_2 K0 Kr n) K0 Kr
def F6_2O (Q : Post) (t : Tm) (w : World) : Prop := ∃ n, F6_2 (fun y9 y11 w => ∀ g, rsh [(9, (.one .ptr)), (11, (.one .ptr))] (upds g [(9, y9), (11, y11)]) fun t => Q (.exit 0) t w) (fun y8 w => ∀ g, rsh [(8, (.one .bool))] (upds g [(8, y8)]) fun t => Q .ret t w) n (t 3) (t 9) (t 11) (t 13) w
theorem F6_2_step (K0 : Value → Value → World → Prop) (Kr : Value → World → Prop) (n : Nat) (t : Tm) (w : World) : (F6_2 K0 Kr (n + 1) (t 3) (t 9) (t 11) (t 13) w) = rsh [(3, (.one .slc)), (9, (.one .ptr)), (11, (.one .ptr)), (13, (.one (.int .i64)))] t (fun t => vc Tryd.prog (orcOf [([1, 0, 0, 1, 0, 1, 1, 1, 1, 1], F6_1O)]) [0, 0, 1, 0, 1, 1, 1, 1, 1] (getAt F6_code [0, 0, 1, 0, 1, 1, 1, 1, 1]) (fun o t w => match o with | .normal => F6_2 K0 Kr n (t 3) (t 9) (t 11) (t 13) w | .exit i => F6_2C K0 Kr (.exit i) t w | .ret => F6_2C K0 Kr .ret t w) t w) := by kernel_rfl
theorem F6_2_ok : ∀ Q t w, F6_2O Q t w → W Tryd.prog Tryd.f6.ntmps (getAt F6_code [0, 1, 0, 1, 1, 1, 1, 1]) Q t w := by
  intro Q t w ⟨n, h⟩
  refine (W_loop (P := Tryd.prog) (b := getAt F6_code [0, 0, 1, 0, 1, 1, 1, 1, 1]) (Q := F6_2C (fun y9 y11 w => ∀ g, rsh [(9, (.one .ptr)), (11, (.one .ptr))] (upds g [(9, y9), (11, y11)]) fun t => Q (.exit 0) t w) (fun y8 w => ∀ g, rsh [(8, (.one .bool))] (upds g [(8, y8)]) fun t => Q .ret t w)) (G := fun n t w => F6_2 (fun y9 y11 w => ∀ g, rsh [(9, (.one .ptr)), (11, (.one .ptr))] (upds g [(9, y9), (11, y11)]) fun t => Q (.exit 0) t w) (fun y8 w => ∀ g, rsh [(8, (.one .bool))] (upds g [(8, y8)]) fun t => Q .ret t w) n (t 3) (t 9) (t 11) (t 13) w) (fun _ _ h => h) (fun n t w h => ?_) n t w h).mono ?_
  · rw [F6_2_step] at h
    exact vc_sound mixed (orcCons (π := [1, 0, 0, 1, 0, 1, 1, 1, 1, 1]) F6_1_ok (orcNil F6_code)) _ _ rfl (okC_at F6_code_ok [0, 0, 1, 0, 1, 1, 1, 1, 1]) _ _ _ (rsh_out h)
  · intro o t w q
    cases o with
    | normal => exact q.elim
    | exit i =>
      unfold F6_2C at q
      simp only at q
      split at q
      · rename_i hi
        rw [nbeq] at hi
        subst hi
        exact out_ok [9, 11] q
      · exact q.elim
    | ret => exact out_ok [8] q
def F6_3C (Kr : Value → World → Prop) : Post := fun o t w => match o with | .normal => False | .exit i => (False) | .ret => Kr (t 8) w
def F6_3 (Kr : Value → World → Prop) (x3 : Value) (x9 : Value) (x11 : Value) (w : World) : Prop :=
  rdC x3 fun l1a l1n l1c => rdP x9 fun p2 => rdP x11 fun p3 => br (Option.isNone p3) (Calls Tryd.prog 19 #[] w fun e6 w5 => ∃ b4, e6 = .returned (.bool b4) ∧ (Kr (.bool b4) w5)) (∃ k22 : Nat, F6_2 (fun y9_6 y11_6 w8 => ∀ _g9 : Tm, rdP y9_6 fun p10 => rdP y11_6 fun p11 => Calls Tryd.prog 30 #[(.pointer p10), (.pointer p11)] w8 fun e14 w13 => ∃ b12, e14 = .returned (.bool b12) ∧ (br b12 (Calls Tryd.prog 19 #[] w13 fun e17 w16 => ∃ b15, e17 = .returned (.bool b15) ∧ (Kr (.bool b15) w16)) (Kr (.bool false) w13))) (fun y8_17 w19 => ∀ _g20 : Tm, rdB y8_17 fun b21 => Kr (.bool b21) w19) k22 (.slice l1a l1n l1c) (.pointer p2) (.pointer p3) (.int .i64 0) w)
def F6_3O (Q : Post) (t : Tm) (w : World) : Prop := F6_3 (fun y8 w => ∀ g, rsh [(8, (.one .bool))] (upds g [(8, y8)]) fun t => Q .ret t w) (t 3) (t 9) (t 11) w
theorem F6_3_step (Kr : Value → World → Prop) (t : Tm) (w : World) : (F6_3 Kr (t 3) (t 9) (t 11) w) = rsh [(3, (.one .slc)), (9, (.one .ptr)), (11, (.one .ptr))] t (fun t => vc Tryd.prog (orcOf [([1, 0, 0, 1, 0, 1, 1, 1, 1, 1], F6_1O), ([0, 1, 0, 1, 1, 1, 1, 1], F6_2O)]) [1, 1, 1, 1] (getAt F6_code [1, 1, 1, 1]) (F6_3C Kr) t w) := by kernel_rfl
theorem F6_3_ok : ∀ Q t w, F6_3O Q t w → W Tryd.prog Tryd.f6.ntmps (getAt F6_code [1, 1, 1, 1]) Q t w := by
  intro Q t w h
  unfold F6_3O at h
  rw [F6_3_step] at h
  refine (vc_sound mixed (orcCons (π := [1, 0, 0, 1, 0, 1, 1, 1, 1, 1]) F6_1_ok (orcCons (π := [0, 1, 0, 1, 1, 1, 1, 1]) F6_2_ok (orcNil F6_code))) _ _ rfl (okC_at F6_code_ok [1, 1, 1, 1]) _ _ _ (rsh_out h)).mono ?_
  intro o t w q
  cases o with
  | normal => exact q.elim
  | exit i => exact q.elim
  | ret => exact out_ok [8] q
def F6 (x0 : Value) (x1 : Value) (x2 : Value) (x3 : Value) (w : World) (K : Value → World → Prop) : Prop :=
  rdI .u32 x0 fun n1 => rdI .i64 x1 fun n2 => rdB x2 fun b3 => rdC x3 fun l4a l4n l4c => Calls Tryd.prog 28 #[(.int .u32 n1), (.int .i64 n2), (.bool b3)] w fun e8 w7 => ∃ p5 n6, e8 = .returned (.tuple #[(.pointer p5), (.int .i64 n6)]) ∧ (Calls Tryd.prog 29 #[(.int .u32 n1), (.int .i64 n2), (.bool b3)] w7 fun e12 w11 => ∃ p9 n10, e12 = .returned (.tuple #[(.pointer p9), (.int .i64 n10)]) ∧ (br (n6 != n10) (K (.bool false) w11) (br (!((Option.isNone p5) == (Option.isNone p9))) (K (.bool false) w11) (F6_3 (fun y8_12 w14 => ∀ _g15 : Tm, rdB y8_12 fun b16 => K (.bool b16) w14) (.slice l4a l4n l4c) (.pointer p5) (.pointer p9) w11))))
theorem F6_step (x0 : Value) (x1 : Value) (x2 : Value) (x3 : Value) (w : World) (K : Value → World → Prop) : (F6 x0 x1 x2 x3 w K) = rsh [(0, (.one (.int .u32))), (1, (.one (.int .i64))), (2, (.one .bool)), (3, (.one .slc))] (args0 #[x0, x1, x2, x3]) (fun t => vc Tryd.prog (orcOf [([1, 0, 0, 1, 0, 1, 1, 1, 1, 1], F6_1O), ([0, 1, 0, 1, 1, 1, 1, 1], F6_2O), ([1, 1, 1, 1], F6_3O)]) [] F6_code (retQ Tryd.prog Tryd.f6 K) t w) := by kernel_rfl
theorem F6_ok {x0 x1 x2 x3 : Value} {w : World} {K : Value → World → Prop} (h : F6 x0 x1 x2 x3 w K) : Calls Tryd.prog 6 #[x0, x1, x2, x3] w fun e w' => ∃ v, e = .returned v ∧ K v w' := by
  rw [F6_step] at h
  exact calls_of (c := F6_code) mixed Tryd.func6 rfl (nlt rfl) (vc_sound mixed (orcCons (π := [1, 0, 0, 1, 0, 1, 1, 1, 1, 1]) F6_1_ok (orcCons (π := [0, 1, 0, 1, 1, 1, 1, 1]) F6_2_ok (orcCons (π := [1, 1, 1, 1]) F6_3_ok (orcNil F6_code)))) F6_code [] rfl F6_code_ok _ _ _ (rsh_out h))

/-! ropewalk/ropewalklaw19.InboxNobody -/
noncomputable def F7_code : Code := Tryd.f7.body.getD .skip
theorem F7_code_ok : okC Tryd.prog Tryd.f7.ntmps F7_code = true := by kernel_rfl
def F7_1C (K0 : World → Prop) (Kr : Value → World → Prop) : Post := fun o t w => match o with | .normal => False | .exit i => (match Nat.beq i 0 with | true => K0  w | false => False) | .ret => Kr (t 4) w
def F7_1B (R : Value → Value → Value → Value → Value → World → Prop) (K0 : World → Prop) (Kr : Value → World → Prop) (x0 : Value) (x1 : Value) (x17 : Value) (x18 : Value) (x19 : Value) (w : World) : Prop :=
  rdI .u32 x0 fun n1 => rdI .i64 x1 fun n2 => rdC x17 fun l3a l3n l3c => rdI .i64 x18 fun n4 => rdI .i64 x19 fun n5 => br (decide ((n5 : Int) < n4)) (ixS 1 l3a l3n n5 fun a6 => ldP a6 w fun p7 => Calls Tryd.prog 10 #[(.pointer p7), (.int .u32 n1)] w fun e11 w10 => ∃ b8 n9, e11 = .returned (.tuple #[(.bool b8), (.int .i64 n9)]) ∧ (Calls Tryd.prog 17 #[(.pointer p7), (.int .u32 1), (.int .i64 n2)] w10 fun e29 w28 => ∃ n12 n13 n14 n15 n16 n17 n18 n19 n20 n21 l22a l22n l22c l23a l23n l23c l24a l24n l24c l25a l25n l25c l26a l26n l26c n27, e29 = .returned (.tuple #[(.agg #[(.int .u8 n12), (.int .u8 n13), (.int .u32 n14), (.int .u16 n15), (.int .u16 n16), (.int .u32 n17), (.int .u32 n18), (.int .u32 n19), (.int .u16 n20), (.int .u16 n21), (.slice l22a l22n l22c), (.slice l23a l23n l23c), (.slice l24a l24n l24c), (.slice l25a l25n l25c), (.slice l26a l26n l26c)]), (.int .i64 n27)]) ∧ (alc (.cells #[(.int .u8 0), (.int .u8 0), (.int .u32 0), (.int .u16 0), (.int .u16 0), (.int .u32 0), (.int .u32 0), (.int .u32 0), (.int .u16 0), (.int .u16 0), (.slice none 0 0), (.slice none 0 0), (.slice none 0 0), (.slice none 0 0), (.slice none 0 0)] 54) w28 fun b30 w31 => stc ((Addr.mk b30 0 none).add 0) (.int .u8 n12) w31 fun w32 => stc ((Addr.mk b30 0 none).add 1) (.int .u8 n13) w32 fun w33 => stc ((Addr.mk b30 0 none).add 2) (.int .u32 n14) w33 fun w34 => stc ((Addr.mk b30 0 none).add 3) (.int .u16 n15) w34 fun w35 => stc ((Addr.mk b30 0 none).add 4) (.int .u16 n16) w35 fun w36 => stc ((Addr.mk b30 0 none).add 5) (.int .u32 n17) w36 fun w37 => stc ((Addr.mk b30 0 none).add 6) (.int .u32 n18) w37 fun w38 => stc ((Addr.mk b30 0 none).add 7) (.int .u32 n19) w38 fun w39 => stc ((Addr.mk b30 0 none).add 8) (.int .u16 n20) w39 fun w40 => stc ((Addr.mk b30 0 none).add 9) (.int .u16 n21) w40 fun w41 => stc ((Addr.mk b30 0 none).add 10) (.slice l22a l22n l22c) w41 fun w42 => stc ((Addr.mk b30 0 none).add 11) (.slice l23a l23n l23c) w42 fun w43 => stc ((Addr.mk b30 0 none).add 12) (.slice l24a l24n l24c) w43 fun w44 => stc ((Addr.mk b30 0 none).add 13) (.slice l25a l25n l25c) w44 fun w45 => stc ((Addr.mk b30 0 none).add 14) (.slice l26a l26n l26c) w45 fun w46 => Calls Tryd.prog 22 #[(.pointer p7)] w46 fun e50 w49 => ∃ n47 b48, e50 = .returned (.tuple #[(.int .i64 n47), (.bool b48)]) ∧ (br b8 (Kr (.bool false) w49) (br (n9 != 4) (Kr (.bool false) w49) (br (n27 != 4) (Kr (.bool false) w49) (Calls Tryd.prog 21 #[(.pointer p7), (.int .i64 n2)] w49 fun e53 w52 => ∃ n51, e53 = .returned (.int .i64 n51) ∧ (br (n51 != 4) (Kr (.bool false) w52) (br b48 (Kr (.bool false) w52) (Calls Tryd.prog 31 #[(.pointer p7), (.int .u32 n1)] w52 fun e56 w55 => ∃ b54, e56 = .returned (.bool b54) ∧ (br b54 (Kr (.bool false) w55) (Calls Tryd.prog 20 #[(.pointer p7), (.int .u32 n1)] w55 fun e59 w58 => ∃ b57, e59 = .returned (.bool b57) ∧ (br b57 (Kr (.bool false) w58) (Calls Tryd.prog 24 #[(.pointer p7)] w58 fun e62 w61 => ∃ n60, e62 = .returned (.int .u32 n60) ∧ (br (n60 != 0) (Kr (.bool false) w61) (alc (.cells #[(.int .u32 n1)] 22) w61 fun b63 w64 => Calls Tryd.prog 12 #[(.pointer p7), (.slice (some (Addr.mk b63 0 none)) 1 1)] w64 fun e67 w66 => ∃ n65, e67 = .returned (.int .i64 n65) ∧ (Calls Tryd.prog 27 #[(.pointer p7)] w66 fun e70 w69 => ∃ l68a l68n l68c, e70 = .returned (.slice l68a l68n l68c) ∧ (Calls Tryd.prog 32 #[(.pointer p7)] w69 fun e73 w72 => ∃ l71a l71n l71c, e73 = .returned (.slice l71a l71n l71c) ∧ (Calls Tryd.prog 33 #[(.pointer p7)] w72 fun e76 w75 => ∃ l74a l74n l74c, e76 = .returned (.slice l74a l74n l74c) ∧ (br ((IntKind.wrap .i64 ((IntKind.wrap .i64 ((IntKind.wrap .i64 ((IntKind.wrap .i64 (n47 + n65)) + (l68n : Int))) + (l71n : Int))) + (l74n : Int))) != 0) (Kr (.bool false) w75) (R (.int .u32 n1) (.int .i64 n2) (.slice l3a l3n l3c) (.int .i64 n4) (.int .i64 (IntKind.wrap .i64 (n5 + 1))) w75))))))))))))))))))))) (K0 w)
def F7_1 (K0 : World → Prop) (Kr : Value → World → Prop) : Nat → Value → Value → Value → Value → Value → World → Prop
  | 0 => fun _ _ _ _ _ _ => False
  | n + 1 => F7_1B (F7_1 K0 Kr n) K0 Kr
def F7_1O (Q : Post) (t : Tm) (w : World) : Prop := ∃ n, F7_1 (fun w => ∀ g, rsh [] (upds g []) fun t => Q (.exit 0) t w) (fun y4 w => ∀ g, rsh [(4, (.one .bool))] (upds g [(4, y4)]) fun t => Q .ret t w) n (t 0) (t 1) (t 17) (t 18) (t 19) w
theorem F7_1_step (K0 : World → Prop) (Kr : Value → World → Prop) (n : Nat) (t : Tm) (w : World) : (F7_1 K0 Kr (n + 1) (t 0) (t 1) (t 17) (t 18) (t 19) w) = rsh [(0, (.one (.int .u32))), (1, (.one (.int .i64))), (17, (.one .slc)), (18, (.one (.int .i64))), (19, (.one (.int .i64)))] t (fun t => vc Tryd.prog (orcOf []) [0, 0, 1, 0, 1, 1] (getAt F7_code [0, 0, 1, 0, 1, 1]) (fun o t w => match o with | .normal => F7_1 K0 Kr n (t 0) (t 1) (t 17) (t 18) (t 19) w | .exit i => F7_1C K0 Kr (.exit i) t w | .ret => F7_1C K0 Kr .ret t w) t w) := by kernel_rfl
theorem F7_1_ok : ∀ Q t w, F7_1O Q t w → W Tryd.prog Tryd.f7.ntmps (getAt F7_code [0, 1, 0, 1, 1]) Q t w := by
  intro Q t w ⟨n, h⟩
  refine (W_loop (P := Tryd.prog) (b := getAt F7_code [0, 0, 1, 0, 1, 1]) (Q := F7_1C (fun w => ∀ g, rsh [] (upds g []) fun t => Q (.exit 0) t w) (fun y4 w => ∀ g, rsh [(4, (.one .bool))] (upds g [(4, y4)]) fun t => Q .ret t w)) (G := fun n t w => F7_1 (fun w => ∀ g, rsh [] (upds g []) fun t => Q (.exit 0) t w) (fun y4 w => ∀ g, rsh [(4, (.one .bool))] (upds g [(4, y4)]) fun t => Q .ret t w) n (t 0) (t 1) (t 17) (t 18) (t 19) w) (fun _ _ h => h) (fun n t w h => ?_) n t w h).mono ?_
  · rw [F7_1_step] at h
    exact vc_sound mixed (orcNil F7_code) _ _ rfl (okC_at F7_code_ok [0, 0, 1, 0, 1, 1]) _ _ _ (rsh_out h)
  · intro o t w q
    cases o with
    | normal => exact q.elim
    | exit i =>
      unfold F7_1C at q
      simp only at q
      split at q
      · rename_i hi
        rw [nbeq] at hi
        subst hi
        exact out_ok [] q
      · exact q.elim
    | ret => exact out_ok [4] q
def F7 (x0 : Value) (x1 : Value) (w : World) (K : Value → World → Prop) : Prop :=
  rdI .u32 x0 fun n1 => rdI .i64 x1 fun n2 => alc (.cells #[(.pointer none), (.map none), (.slice none 0 0), (.int .i64 0), (.bool false), (.int .i64 0), (.bool false), (.int .i64 0)] 80) w fun b3 w4 => alc (.cells #[(.pointer none), (.pointer (some (Addr.mk b3 0 none)))] 25) w4 fun b5 w6 => ∃ k17 : Nat, F7_1 (fun w8 => ∀ _g9 : Tm, Calls Tryd.prog 19 #[] w8 fun e12 w11 => ∃ b10, e12 = .returned (.bool b10) ∧ (K (.bool b10) w11)) (fun y4_12 w14 => ∀ _g15 : Tm, rdB y4_12 fun b16 => K (.bool b16) w14) k17 (.int .u32 n1) (.int .i64 n2) (.slice (some (Addr.mk b5 0 none)) 2 2) (.int .i64 (2 : Int)) (.int .i64 0) w6
theorem F7_step (x0 : Value) (x1 : Value) (w : World) (K : Value → World → Prop) : (F7 x0 x1 w K) = rsh [(0, (.one (.int .u32))), (1, (.one (.int .i64)))] (args0 #[x0, x1]) (fun t => vc Tryd.prog (orcOf [([0, 1, 0, 1, 1], F7_1O)]) [] F7_code (retQ Tryd.prog Tryd.f7 K) t w) := by kernel_rfl
theorem F7_ok {x0 x1 : Value} {w : World} {K : Value → World → Prop} (h : F7 x0 x1 w K) : Calls Tryd.prog 7 #[x0, x1] w fun e w' => ∃ v, e = .returned v ∧ K v w' := by
  rw [F7_step] at h
  exact calls_of (c := F7_code) mixed Tryd.func7 rfl (nlt rfl) (vc_sound mixed (orcCons (π := [0, 1, 0, 1, 1]) F7_1_ok (orcNil F7_code)) F7_code [] rfl F7_code_ok _ _ _ (rsh_out h))

/-! ropewalk/ropewalklaw19.made -/
noncomputable def F8_code : Code := Tryd.f8.body.getD .skip
theorem F8_code_ok : okC Tryd.prog Tryd.f8.ntmps F8_code = true := by kernel_rfl
def F8_1C (Kn : Value → Value → Value → Value → World → Prop) (Kr : Value → Value → Value → World → Prop) : Post := fun o t w => match o with | .normal => Kn (t 3) (t 11) (t 13) (t 15) w | .exit i => (False) | .ret => Kr (t 8) (t 9) (t 10) w
def F8_1 (Kn : Value → Value → Value → Value → World → Prop) (Kr : Value → Value → Value → World → Prop) (x3 : Value) (x11 : Value) (x13 : Value) (x15 : Value) (w : World) : Prop :=
  rdC x3 fun l1a l1n l1c => rdP x11 fun p2 => rdP x13 fun p3 => rdI .i64 x15 fun n4 => ixS 3 l1a l1n n4 fun a5 => ldI .i64 (a5.add 0) w fun n6 => ldC (a5.add 1) w fun l7a l7n l7c => ldI .i64 (a5.add 2) w fun n8 => Calls Tryd.prog 16 #[(.pointer p2), (.pointer p3), (.agg #[(.int .i64 n6), (.slice l7a l7n l7c), (.int .i64 n8)])] w fun e11 w10 => ∃ b9, e11 = .returned (.bool b9) ∧ (br (!b9) (Kr (.pointer none) (.pointer none) (.bool false) w10) (Kn (.slice l1a l1n l1c) (.pointer p2) (.pointer p3) (.int .i64 (IntKind.wrap .i64 (n4 + 1))) w10))
def F8_1O (Q : Post) (t : Tm) (w : World) : Prop := F8_1 (fun y3 y11 y13 y15 w => ∀ g, rsh [(3, (.one .slc)), (11, (.one .ptr)), (13, (.one .ptr)), (15, (.one (.int .i64)))] (upds g [(3, y3), (11, y11), (13, y13), (15, y15)]) fun t => Q .normal t w) (fun y8 y9 y10 w => ∀ g, rsh [(8, (.one .ptr)), (9, (.one .ptr)), (10, (.one .bool))] (upds g [(8, y8), (9, y9), (10, y10)]) fun t => Q .ret t w) (t 3) (t 11) (t 13) (t 15) w
theorem F8_1_step (Kn : Value → Value → Value → Value → World → Prop) (Kr : Value → Value → Value → World → Prop) (t : Tm) (w : World) : (F8_1 Kn Kr (t 3) (t 11) (t 13) (t 15) w) = rsh [(3, (.one .slc)), (11, (.one .ptr)), (13, (.one .ptr)), (15, (.one (.int .i64)))] t (fun t => vc Tryd.prog (orcOf []) [1, 0, 0, 1, 0, 1, 1, 1, 1] (getAt F8_code [1, 0, 0, 1, 0, 1, 1, 1, 1]) (F8_1C Kn Kr) t w) := by kernel_rfl
theorem F8_1_ok : ∀ Q t w, F8_1O Q t w → W Tryd.prog Tryd.f8.ntmps (getAt F8_code [1, 0, 0, 1, 0, 1, 1, 1, 1]) Q t w := by
  intro Q t w h
  unfold F8_1O at h
  rw [F8_1_step] at h
  refine (vc_sound mixed (orcNil F8_code) _ _ rfl (okC_at F8_code_ok [1, 0, 0, 1, 0, 1, 1, 1, 1]) _ _ _ (rsh_out h)).mono ?_
  intro o t w q
  cases o with
  | normal => exact out_ok [3, 11, 13, 15] q
  | exit i => exact q.elim
  | ret => exact out_ok [8, 9, 10] q
def F8_2C (K0 : Value → Value → World → Prop) (Kr : Value → Value → Value → World → Prop) : Post := fun o t w => match o with | .normal => False | .exit i => (match Nat.beq i 0 with | true => K0 (t 11) (t 13) w | false => False) | .ret => Kr (t 8) (t 9) (t 10) w
def F8_2B (R : Value → Value → Value → Value → World → Prop) (K0 : Value → Value → World → Prop) (Kr : Value → Value → Value → World → Prop) (x3 : Value) (x11 : Value) (x13 : Value) (x15 : Value) (w : World) : Prop :=
  rdC x3 fun l1a l1n l1c => rdP x11 fun p2 => rdP x13 fun p3 => rdI .i64 x15 fun n4 => br (!(Option.isNone p3)) (br (decide ((n4 : Int) < (l1n : Int))) (br (decide ((n4 : Int) < 200)) (F8_1 (fun y3_4 y11_4 y13_4 y15_4 w6 => ∀ _g7 : Tm, rdC y3_4 fun l8a l8n l8c => rdP y11_4 fun p9 => rdP y13_4 fun p10 => rdI .i64 y15_4 fun n11 => R (.slice l8a l8n l8c) (.pointer p9) (.pointer p10) (.int .i64 n11) w6) (fun y8_11 y9_11 y10_11 w13 => ∀ _g14 : Tm, rdP y8_11 fun p15 => rdP y9_11 fun p16 => rdB y10_11 fun b17 => Kr (.pointer p15) (.pointer p16) (.bool b17) w13) (.slice l1a l1n l1c) (.pointer p2) (.pointer p3) (.int .i64 n4) w) (K0 (.pointer p2) (.pointer p3) w)) (K0 (.pointer p2) (.pointer p3) w)) (K0 (.pointer p2) (.pointer p3) w)
def F8_2 (K0 : Value → Value → World → Prop) (Kr : Value → Value → Value → World → Prop) : Nat → Value → Value → Value → Value → World → Prop
  | 0 => fun _ _ _ _ _ => False
  | n + 1 => F8_2B (F8_2 K0 Kr n) K0 Kr
def F8_2O (Q : Post) (t : Tm) (w : World) : Prop := ∃ n, F8_2 (fun y11 y13 w => ∀ g, rsh [(11, (.one .ptr)), (13, (.one .ptr))] (upds g [(11, y11), (13, y13)]) fun t => Q (.exit 0) t w) (fun y8 y9 y10 w => ∀ g, rsh [(8, (.one .ptr)), (9, (.one .ptr)), (10, (.one .bool))] (upds g [(8, y8), (9, y9), (10, y10)]) fun t => Q .ret t w) n (t 3) (t 11) (t 13) (t 15) w
theorem F8_2_step (K0 : Value → Value → World → Prop) (Kr : Value → Value → Value → World → Prop) (n : Nat) (t : Tm) (w : World) : (F8_2 K0 Kr (n + 1) (t 3) (t 11) (t 13) (t 15) w) = rsh [(3, (.one .slc)), (11, (.one .ptr)), (13, (.one .ptr)), (15, (.one (.int .i64)))] t (fun t => vc Tryd.prog (orcOf [([1, 0, 0, 1, 0, 1, 1, 1, 1], F8_1O)]) [0, 0, 1, 0, 1, 1, 1, 1] (getAt F8_code [0, 0, 1, 0, 1, 1, 1, 1]) (fun o t w => match o with | .normal => F8_2 K0 Kr n (t 3) (t 11) (t 13) (t 15) w | .exit i => F8_2C K0 Kr (.exit i) t w | .ret => F8_2C K0 Kr .ret t w) t w) := by kernel_rfl
theorem F8_2_ok : ∀ Q t w, F8_2O Q t w → W Tryd.prog Tryd.f8.ntmps (getAt F8_code [0, 1, 0, 1, 1, 1, 1]) Q t w := by
  intro Q t w ⟨n, h⟩
  refine (W_loop (P := Tryd.prog) (b := getAt F8_code [0, 0, 1, 0, 1, 1, 1, 1]) (Q := F8_2C (fun y11 y13 w => ∀ g, rsh [(11, (.one .ptr)), (13, (.one .ptr))] (upds g [(11, y11), (13, y13)]) fun t => Q (.exit 0) t w) (fun y8 y9 y10 w => ∀ g, rsh [(8, (.one .ptr)), (9, (.one .ptr)), (10, (.one .bool))] (upds g [(8, y8), (9, y9), (10, y10)]) fun t => Q .ret t w)) (G := fun n t w => F8_2 (fun y11 y13 w => ∀ g, rsh [(11, (.one .ptr)), (13, (.one .ptr))] (upds g [(11, y11), (13, y13)]) fun t => Q (.exit 0) t w) (fun y8 y9 y10 w => ∀ g, rsh [(8, (.one .ptr)), (9, (.one .ptr)), (10, (.one .bool))] (upds g [(8, y8), (9, y9), (10, y10)]) fun t => Q .ret t w) n (t 3) (t 11) (t 13) (t 15) w) (fun _ _ h => h) (fun n t w h => ?_) n t w h).mono ?_
  · rw [F8_2_step] at h
    exact vc_sound mixed (orcCons (π := [1, 0, 0, 1, 0, 1, 1, 1, 1]) F8_1_ok (orcNil F8_code)) _ _ rfl (okC_at F8_code_ok [0, 0, 1, 0, 1, 1, 1, 1]) _ _ _ (rsh_out h)
  · intro o t w q
    cases o with
    | normal => exact q.elim
    | exit i =>
      unfold F8_2C at q
      simp only at q
      split at q
      · rename_i hi
        rw [nbeq] at hi
        subst hi
        exact out_ok [11, 13] q
      · exact q.elim
    | ret => exact out_ok [8, 9, 10] q
def F8_3C (Kr : Value → Value → Value → World → Prop) : Post := fun o t w => match o with | .normal => False | .exit i => (False) | .ret => Kr (t 8) (t 9) (t 10) w
def F8_3 (Kr : Value → Value → Value → World → Prop) (x3 : Value) (x11 : Value) (x13 : Value) (w : World) : Prop :=
  rdC x3 fun l1a l1n l1c => rdP x11 fun p2 => rdP x13 fun p3 => ∃ k15 : Nat, F8_2 (fun y11_3 y13_3 w5 => ∀ _g6 : Tm, rdP y11_3 fun p7 => rdP y13_3 fun p8 => Kr (.pointer p7) (.pointer p8) (.bool true) w5) (fun y8_8 y9_8 y10_8 w10 => ∀ _g11 : Tm, rdP y8_8 fun p12 => rdP y9_8 fun p13 => rdB y10_8 fun b14 => Kr (.pointer p12) (.pointer p13) (.bool b14) w10) k15 (.slice l1a l1n l1c) (.pointer p2) (.pointer p3) (.int .i64 0) w
def F8_3O (Q : Post) (t : Tm) (w : World) : Prop := F8_3 (fun y8 y9 y10 w => ∀ g, rsh [(8, (.one .ptr)), (9, (.one .ptr)), (10, (.one .bool))] (upds g [(8, y8), (9, y9), (10, y10)]) fun t => Q .ret t w) (t 3) (t 11) (t 13) w
theorem F8_3_step (Kr : Value → Value → Value → World → Prop) (t : Tm) (w : World) : (F8_3 Kr (t 3) (t 11) (t 13) w) = rsh [(3, (.one .slc)), (11, (.one .ptr)), (13, (.one .ptr))] t (fun t => vc Tryd.prog (orcOf [([1, 0, 0, 1, 0, 1, 1, 1, 1], F8_1O), ([0, 1, 0, 1, 1, 1, 1], F8_2O)]) [1, 1, 1, 1] (getAt F8_code [1, 1, 1, 1]) (F8_3C Kr) t w) := by kernel_rfl
theorem F8_3_ok : ∀ Q t w, F8_3O Q t w → W Tryd.prog Tryd.f8.ntmps (getAt F8_code [1, 1, 1, 1]) Q t w := by
  intro Q t w h
  unfold F8_3O at h
  rw [F8_3_step] at h
  refine (vc_sound mixed (orcCons (π := [1, 0, 0, 1, 0, 1, 1, 1, 1]) F8_1_ok (orcCons (π := [0, 1, 0, 1, 1, 1, 1]) F8_2_ok (orcNil F8_code))) _ _ rfl (okC_at F8_code_ok [1, 1, 1, 1]) _ _ _ (rsh_out h)).mono ?_
  intro o t w q
  cases o with
  | normal => exact q.elim
  | exit i => exact q.elim
  | ret => exact out_ok [8, 9, 10] q
def F8 (x0 : Value) (x1 : Value) (x2 : Value) (x3 : Value) (w : World) (K : Value → World → Prop) : Prop :=
  rdI .u32 x0 fun n1 => rdI .i64 x1 fun n2 => rdB x2 fun b3 => rdC x3 fun l4a l4n l4c => Calls Tryd.prog 28 #[(.int .u32 n1), (.int .i64 n2), (.bool b3)] w fun e8 w7 => ∃ p5 n6, e8 = .returned (.tuple #[(.pointer p5), (.int .i64 n6)]) ∧ (Calls Tryd.prog 29 #[(.int .u32 n1), (.int .i64 n2), (.bool b3)] w7 fun e12 w11 => ∃ p9 n10, e12 = .returned (.tuple #[(.pointer p9), (.int .i64 n10)]) ∧ (br (n6 != n10) (K (.tuple #[(.pointer none), (.pointer none), (.bool false)]) w11) (br (!((Option.isNone p5) == (Option.isNone p9))) (K (.tuple #[(.pointer none), (.pointer none), (.bool false)]) w11) (F8_3 (fun y8_12 y9_12 y10_12 w14 => ∀ _g15 : Tm, rdP y8_12 fun p16 => rdP y9_12 fun p17 => rdB y10_12 fun b18 => K (.tuple #[(.pointer p16), (.pointer p17), (.bool b18)]) w14) (.slice l4a l4n l4c) (.pointer p5) (.pointer p9) w11))))
theorem F8_step (x0 : Value) (x1 : Value) (x2 : Value) (x3 : Value) (w : World) (K : Value → World → Prop) : (F8 x0 x1 x2 x3 w K) = rsh [(0, (.one (.int .u32))), (1, (.one (.int .i64))), (2, (.one .bool)), (3, (.one .slc))] (args0 #[x0, x1, x2, x3]) (fun t => vc Tryd.prog (orcOf [([1, 0, 0, 1, 0, 1, 1, 1, 1], F8_1O), ([0, 1, 0, 1, 1, 1, 1], F8_2O), ([1, 1, 1, 1], F8_3O)]) [] F8_code (retQ Tryd.prog Tryd.f8 K) t w) := by kernel_rfl
theorem F8_ok {x0 x1 x2 x3 : Value} {w : World} {K : Value → World → Prop} (h : F8 x0 x1 x2 x3 w K) : Calls Tryd.prog 8 #[x0, x1, x2, x3] w fun e w' => ∃ v, e = .returned v ∧ K v w' := by
  rw [F8_step] at h
  exact calls_of (c := F8_code) mixed Tryd.func8 rfl (nlt rfl) (vc_sound mixed (orcCons (π := [1, 0, 0, 1, 0, 1, 1, 1, 1]) F8_1_ok (orcCons (π := [0, 1, 0, 1, 1, 1, 1]) F8_2_ok (orcCons (π := [1, 1, 1, 1]) F8_3_ok (orcNil F8_code)))) F8_code [] rfl F8_code_ok _ _ _ (rsh_out h))

/-! ropewalk/ropewalkref01.Add -/
noncomputable def F9_code : Code := Tryd.f9.body.getD .skip
theorem F9_code_ok : okC Tryd.prog Tryd.f9.ntmps F9_code = true := by kernel_rfl
def F9 (x0 : Value) (x1 : Value) (w : World) (K : Value → World → Prop) : Prop :=
  rdI .u32 x0 fun n1 => rdI .u32 x1 fun n2 => K (.int .u32 (IntKind.wrap .u32 ((Int.tmod (IntKind.wrap .u64 ((IntKind.wrap .u64 (n1)) + (IntKind.wrap .u64 (n2)))) 4294967296)))) w
theorem F9_step (x0 : Value) (x1 : Value) (w : World) (K : Value → World → Prop) : (F9 x0 x1 w K) = rsh [(0, (.one (.int .u32))), (1, (.one (.int .u32)))] (args0 #[x0, x1]) (fun t => vc Tryd.prog (orcOf []) [] F9_code (retQ Tryd.prog Tryd.f9 K) t w) := by kernel_rfl
theorem F9_ok {x0 x1 : Value} {w : World} {K : Value → World → Prop} (h : F9 x0 x1 w K) : Calls Tryd.prog 9 #[x0, x1] w fun e w' => ∃ v, e = .returned v ∧ K v w' := by
  rw [F9_step] at h
  exact calls_of (c := F9_code) mixed Tryd.func9 rfl (nlt rfl) (vc_sound mixed (orcNil F9_code) F9_code [] rfl F9_code_ok _ _ _ (rsh_out h))

/-! (*ropewalk/inbox.Box).Come -/
noncomputable def F10_code : Code := Tryd.f10.body.getD .skip
theorem F10_code_ok : okC Tryd.prog Tryd.f10.ntmps F10_code = true := by kernel_rfl
def F10_1C (K0 : Value → World → Prop) : Post := fun o t w => match o with | .normal => False | .exit i => (match Nat.beq i 0 with | true => K0 (t 7) w | false => False) | .ret => False
def F10_1B (R : Value → Value → Value → World → Prop) (K0 : Value → World → Prop) (x0 : Value) (x7 : Value) (x9 : Value) (w : World) : Prop :=
  rdP x0 fun p1 => rdB x7 fun b2 => rdI .u32 x9 fun n3 => nn p1 fun a4 => ldP (a4.add 0) w fun p5 => Calls Tryd.prog 35 #[(.pointer p5)] w fun e8 w7 => ∃ n6, e8 = .returned (.int .u32 n6) ∧ (br (n3 != n6) (nn p1 fun a9 => ldM (a9.add 1) w7 fun m10 => ∃ w11, Sem.run Tryd.prog (Builtin.delete_ #[78, 22] 0 #[(.map m10), (.int .u32 (IntKind.wrap .u32 (n3 + 1)))]) w7 = .ok (.tuple #[]) w11 ∧ (R (.pointer p1) (.bool b2) (.int .u32 (IntKind.wrap .u32 (n3 + 1))) w11)) (K0 (.bool b2) w7))
def F10_1 (K0 : Value → World → Prop) : Nat → Value → Value → Value → World → Prop
  | 0 => fun _ _ _ _ => False
  | n + 1 => F10_1B (F10_1 K0 n) K0
def F10_1O (Q : Post) (t : Tm) (w : World) : Prop := ∃ n, F10_1 (fun y7 w => ∀ g, rsh [(7, (.one .bool))] (upds g [(7, y7)]) fun t => Q (.exit 0) t w) n (t 0) (t 7) (t 9) w
theorem F10_1_step (K0 : Value → World → Prop) (n : Nat) (t : Tm) (w : World) : (F10_1 K0 (n + 1) (t 0) (t 7) (t 9) w) = rsh [(0, (.one .ptr)), (7, (.one .bool)), (9, (.one (.int .u32)))] t (fun t => vc Tryd.prog (orcOf []) [0, 0, 1, 0, 1, 1, 1, 1, 1, 1] (getAt F10_code [0, 0, 1, 0, 1, 1, 1, 1, 1, 1]) (fun o t w => match o with | .normal => F10_1 K0 n (t 0) (t 7) (t 9) w | .exit i => F10_1C K0 (.exit i) t w | .ret => F10_1C K0 .ret t w) t w) := by kernel_rfl
theorem F10_1_ok : ∀ Q t w, F10_1O Q t w → W Tryd.prog Tryd.f10.ntmps (getAt F10_code [0, 1, 0, 1, 1, 1, 1, 1, 1]) Q t w := by
  intro Q t w ⟨n, h⟩
  refine (W_loop (P := Tryd.prog) (b := getAt F10_code [0, 0, 1, 0, 1, 1, 1, 1, 1, 1]) (Q := F10_1C (fun y7 w => ∀ g, rsh [(7, (.one .bool))] (upds g [(7, y7)]) fun t => Q (.exit 0) t w)) (G := fun n t w => F10_1 (fun y7 w => ∀ g, rsh [(7, (.one .bool))] (upds g [(7, y7)]) fun t => Q (.exit 0) t w) n (t 0) (t 7) (t 9) w) (fun _ _ h => h) (fun n t w h => ?_) n t w h).mono ?_
  · rw [F10_1_step] at h
    exact vc_sound mixed (orcNil F10_code) _ _ rfl (okC_at F10_code_ok [0, 0, 1, 0, 1, 1, 1, 1, 1, 1]) _ _ _ (rsh_out h)
  · intro o t w q
    cases o with
    | normal => exact q.elim
    | exit i =>
      unfold F10_1C at q
      simp only at q
      split at q
      · rename_i hi
        rw [nbeq] at hi
        subst hi
        exact out_ok [7] q
      · exact q.elim
    | ret => exact q.elim
def F10_2C (Kn : Value → Value → Value → World → Prop) : Post := fun o t w => match o with | .normal => Kn (t 0) (t 6) (t 7) w | .exit i => (False) | .ret => False
def F10_2 (Kn : Value → Value → Value → World → Prop) (x0 : Value) (x1 : Value) (x6 : Value) (x7 : Value) (x39 : Value) (w : World) : Prop :=
  rdP x0 fun p1 => rdI .u32 x1 fun n2 => rdI .u32 x6 fun n3 => rdB x7 fun b4 => rdB x39 fun b5 => br b5 (nn p1 fun a6 => ldC (a6.add 2) w fun l7a l7n l7c => alc (.cells #[(.int .u32 n2)] 22) w fun b8 w9 => ∃ l10a l10n l10c w11, Sem.run Tryd.prog (Builtin.append_ #[34, 34] 34 #[(.slice l7a l7n l7c), (.slice (some (Addr.mk b8 0 none)) 1 1)]) w9 = .ok (.slice l10a l10n l10c) w11 ∧ (nn p1 fun a12 => stc (a12.add 2) (.slice l10a l10n l10c) w11 fun w13 => Kn (.pointer p1) (.int .u32 n3) (.bool b4) w13)) (Kn (.pointer p1) (.int .u32 n3) (.bool b4) w)
def F10_2O (Q : Post) (t : Tm) (w : World) : Prop := F10_2 (fun y0 y6 y7 w => ∀ g, rsh [(0, (.one .ptr)), (6, (.one (.int .u32))), (7, (.one .bool))] (upds g [(0, y0), (6, y6), (7, y7)]) fun t => Q .normal t w) (t 0) (t 1) (t 6) (t 7) (t 39) w
theorem F10_2_step (Kn : Value → Value → Value → World → Prop) (t : Tm) (w : World) : (F10_2 Kn (t 0) (t 1) (t 6) (t 7) (t 39) w) = rsh [(0, (.one .ptr)), (1, (.one (.int .u32))), (6, (.one (.int .u32))), (7, (.one .bool)), (39, (.one .bool))] t (fun t => vc Tryd.prog (orcOf []) [1, 0, 1, 1, 1, 1, 1] (getAt F10_code [1, 0, 1, 1, 1, 1, 1]) (F10_2C Kn) t w) := by kernel_rfl
theorem F10_2_ok : ∀ Q t w, F10_2O Q t w → W Tryd.prog Tryd.f10.ntmps (getAt F10_code [1, 0, 1, 1, 1, 1, 1]) Q t w := by
  intro Q t w h
  unfold F10_2O at h
  rw [F10_2_step] at h
  refine (vc_sound mixed (orcNil F10_code) _ _ rfl (okC_at F10_code_ok [1, 0, 1, 1, 1, 1, 1]) _ _ _ (rsh_out h)).mono ?_
  intro o t w q
  cases o with
  | normal => exact out_ok [0, 6, 7] q
  | exit i => exact q.elim
  | ret => exact q.elim
def F10_3C (Kr : Value → Value → World → Prop) : Post := fun o t w => match o with | .normal => False | .exit i => (False) | .ret => Kr (t 4) (t 5) w
def F10_3 (Kr : Value → Value → World → Prop) (x0 : Value) (x6 : Value) (x7 : Value) (w : World) : Prop :=
  rdP x0 fun p1 => rdI .u32 x6 fun n2 => rdB x7 fun b3 => ∃ k8 : Nat, F10_1 (fun y7_3 w5 => ∀ _g6 : Tm, rdB y7_3 fun b7 => Kr (.bool b7) (.int .i64 0) w5) k8 (.pointer p1) (.bool b3) (.int .u32 n2) w
def F10_3O (Q : Post) (t : Tm) (w : World) : Prop := F10_3 (fun y4 y5 w => ∀ g, rsh [(4, (.one .bool)), (5, (.one (.int .i64)))] (upds g [(4, y4), (5, y5)]) fun t => Q .ret t w) (t 0) (t 6) (t 7) w
theorem F10_3_step (Kr : Value → Value → World → Prop) (t : Tm) (w : World) : (F10_3 Kr (t 0) (t 6) (t 7) w) = rsh [(0, (.one .ptr)), (6, (.one (.int .u32))), (7, (.one .bool))] t (fun t => vc Tryd.prog (orcOf [([0, 1, 0, 1, 1, 1, 1, 1, 1], F10_1O)]) [1, 1, 1, 1, 1, 1] (getAt F10_code [1, 1, 1, 1, 1, 1]) (F10_3C Kr) t w) := by kernel_rfl
theorem F10_3_ok : ∀ Q t w, F10_3O Q t w → W Tryd.prog Tryd.f10.ntmps (getAt F10_code [1, 1, 1, 1, 1, 1]) Q t w := by
  intro Q t w h
  unfold F10_3O at h
  rw [F10_3_step] at h
  refine (vc_sound mixed (orcCons (π := [0, 1, 0, 1, 1, 1, 1, 1, 1]) F10_1_ok (orcNil F10_code)) _ _ rfl (okC_at F10_code_ok [1, 1, 1, 1, 1, 1]) _ _ _ (rsh_out h)).mono ?_
  intro o t w q
  cases o with
  | normal => exact q.elim
  | exit i => exact q.elim
  | ret => exact out_ok [4, 5] q
def F10 (x0 : Value) (x1 : Value) (w : World) (K : Value → World → Prop) : Prop :=
  rdP x0 fun p1 => rdI .u32 x1 fun n2 => Calls Tryd.prog 34 #[(.pointer p1)] w fun e5 w4 => ∃ b3, e5 = .returned (.bool b3) ∧ (br (!b3) (K (.tuple #[(.bool false), (.int .i64 4)]) w4) (nn p1 fun a6 => ldP (a6.add 0) w4 fun p7 => Calls Tryd.prog 35 #[(.pointer p7)] w4 fun e10 w9 => ∃ n8, e10 = .returned (.int .u32 n8) ∧ (nn p1 fun a11 => ldP (a11.add 0) w9 fun p12 => Calls Tryd.prog 36 #[(.pointer p12), (.int .u32 n2)] w9 fun e16 w15 => ∃ b13 n14, e16 = .returned (.tuple #[(.bool b13), (.int .i64 n14)]) ∧ (br (n14 != 0) (K (.tuple #[(.bool false), (.int .i64 n14)]) w15) (br (!b13) (nn p1 fun a17 => ldC (a17.add 2) w15 fun l18a l18n l18c => F10_2 (fun y0_18 y6_18 y7_18 w20 => ∀ _g21 : Tm, rdP y0_18 fun p22 => rdI .u32 y6_18 fun n23 => rdB y7_18 fun b24 => F10_3 (fun y4_24 y5_24 w26 => ∀ _g27 : Tm, rdB y4_24 fun b28 => rdI .i64 y5_24 fun n29 => K (.tuple #[(.bool b28), (.int .i64 n29)]) w26) (.pointer p22) (.int .u32 n23) (.bool b24) w20) (.pointer p1) (.int .u32 n2) (.int .u32 n8) (.bool b13) (.bool (decide (((l18n : Int) : Int) < 4096))) w15) (F10_2 (fun y0_29 y6_29 y7_29 w31 => ∀ _g32 : Tm, rdP y0_29 fun p33 => rdI .u32 y6_29 fun n34 => rdB y7_29 fun b35 => F10_3 (fun y4_35 y5_35 w37 => ∀ _g38 : Tm, rdB y4_35 fun b39 => rdI .i64 y5_35 fun n40 => K (.tuple #[(.bool b39), (.int .i64 n40)]) w37) (.pointer p33) (.int .u32 n34) (.bool b35) w31) (.pointer p1) (.int .u32 n2) (.int .u32 n8) (.bool b13) (.bool false) w15))))))
theorem F10_step (x0 : Value) (x1 : Value) (w : World) (K : Value → World → Prop) : (F10 x0 x1 w K) = rsh [(0, (.one .ptr)), (1, (.one (.int .u32)))] (args0 #[x0, x1]) (fun t => vc Tryd.prog (orcOf [([0, 1, 0, 1, 1, 1, 1, 1, 1], F10_1O), ([1, 0, 1, 1, 1, 1, 1], F10_2O), ([1, 1, 1, 1, 1, 1], F10_3O)]) [] F10_code (retQ Tryd.prog Tryd.f10 K) t w) := by kernel_rfl
theorem F10_ok {x0 x1 : Value} {w : World} {K : Value → World → Prop} (h : F10 x0 x1 w K) : Calls Tryd.prog 10 #[x0, x1] w fun e w' => ∃ v, e = .returned v ∧ K v w' := by
  rw [F10_step] at h
  exact calls_of (c := F10_code) mixed Tryd.func10 rfl (nlt rfl) (vc_sound mixed (orcCons (π := [0, 1, 0, 1, 1, 1, 1, 1, 1]) F10_1_ok (orcCons (π := [1, 0, 1, 1, 1, 1, 1]) F10_2_ok (orcCons (π := [1, 1, 1, 1, 1, 1]) F10_3_ok (orcNil F10_code)))) F10_code [] rfl F10_code_ok _ _ _ (rsh_out h))

/-! (*ropewalk/ropewalkref19.Box).Come -/
noncomputable def F11_code : Code := Tryd.f11.body.getD .skip
theorem F11_code_ok : okC Tryd.prog Tryd.f11.ntmps F11_code = true := by kernel_rfl
def F11_1C (Kn : Value → Value → World → Prop) : Post := fun o t w => match o with | .normal => Kn (t 0) (t 6) w | .exit i => (False) | .ret => False
def F11_1 (Kn : Value → Value → World → Prop) (x0 : Value) (x1 : Value) (x6 : Value) (x29 : Value) (w : World) : Prop :=
  rdP x0 fun p1 => rdI .u32 x1 fun n2 => rdB x6 fun b3 => rdB x29 fun b4 => br b4 (nn p1 fun a5 => ldC (a5.add 4) w fun l6a l6n l6c => alc (.cells #[(.int .u32 n2)] 22) w fun b7 w8 => ∃ l9a l9n l9c w10, Sem.run Tryd.prog (Builtin.append_ #[34, 34] 34 #[(.slice l6a l6n l6c), (.slice (some (Addr.mk b7 0 none)) 1 1)]) w8 = .ok (.slice l9a l9n l9c) w10 ∧ (nn p1 fun a11 => stc (a11.add 4) (.slice l9a l9n l9c) w10 fun w12 => Kn (.pointer p1) (.bool b3) w12)) (Kn (.pointer p1) (.bool b3) w)
def F11_1O (Q : Post) (t : Tm) (w : World) : Prop := F11_1 (fun y0 y6 w => ∀ g, rsh [(0, (.one .ptr)), (6, (.one .bool))] (upds g [(0, y0), (6, y6)]) fun t => Q .normal t w) (t 0) (t 1) (t 6) (t 29) w
theorem F11_1_step (Kn : Value → Value → World → Prop) (t : Tm) (w : World) : (F11_1 Kn (t 0) (t 1) (t 6) (t 29) w) = rsh [(0, (.one .ptr)), (1, (.one (.int .u32))), (6, (.one .bool)), (29, (.one .bool))] t (fun t => vc Tryd.prog (orcOf []) [1, 0, 1, 1, 1] (getAt F11_code [1, 0, 1, 1, 1]) (F11_1C Kn) t w) := by kernel_rfl
theorem F11_1_ok : ∀ Q t w, F11_1O Q t w → W Tryd.prog Tryd.f11.ntmps (getAt F11_code [1, 0, 1, 1, 1]) Q t w := by
  intro Q t w h
  unfold F11_1O at h
  rw [F11_1_step] at h
  refine (vc_sound mixed (orcNil F11_code) _ _ rfl (okC_at F11_code_ok [1, 0, 1, 1, 1]) _ _ _ (rsh_out h)).mono ?_
  intro o t w q
  cases o with
  | normal => exact out_ok [0, 6] q
  | exit i => exact q.elim
  | ret => exact q.elim
def F11 (x0 : Value) (x1 : Value) (w : World) (K : Value → World → Prop) : Prop :=
  rdP x0 fun p1 => rdI .u32 x1 fun n2 => nn p1 fun a3 => ldP (a3.add 0) w fun p4 => Calls Tryd.prog 37 #[(.pointer p4), (.int .u32 n2)] w fun e8 w7 => ∃ b5 n6, e8 = .returned (.tuple #[(.bool b5), (.int .i64 n6)]) ∧ (br (n6 != 0) (K (.tuple #[(.bool false), (.int .i64 n6)]) w7) (br (!b5) (nn p1 fun a9 => ldC (a9.add 4) w7 fun l10a l10n l10c => F11_1 (fun y0_10 y6_10 w12 => ∀ _g13 : Tm, rdP y0_10 fun p14 => rdB y6_10 fun b15 => Calls Tryd.prog 38 #[(.pointer p14)] w12 fun e17 w16 => e17 = .returned (.tuple #[]) ∧ (K (.tuple #[(.bool b15), (.int .i64 0)]) w16)) (.pointer p1) (.int .u32 n2) (.bool b5) (.bool (decide (((l10n : Int) : Int) < 4096))) w7) (F11_1 (fun y0_17 y6_17 w19 => ∀ _g20 : Tm, rdP y0_17 fun p21 => rdB y6_17 fun b22 => Calls Tryd.prog 38 #[(.pointer p21)] w19 fun e24 w23 => e24 = .returned (.tuple #[]) ∧ (K (.tuple #[(.bool b22), (.int .i64 0)]) w23)) (.pointer p1) (.int .u32 n2) (.bool b5) (.bool false) w7)))
theorem F11_step (x0 : Value) (x1 : Value) (w : World) (K : Value → World → Prop) : (F11 x0 x1 w K) = rsh [(0, (.one .ptr)), (1, (.one (.int .u32)))] (args0 #[x0, x1]) (fun t => vc Tryd.prog (orcOf [([1, 0, 1, 1, 1], F11_1O)]) [] F11_code (retQ Tryd.prog Tryd.f11 K) t w) := by kernel_rfl
theorem F11_ok {x0 x1 : Value} {w : World} {K : Value → World → Prop} (h : F11 x0 x1 w K) : Calls Tryd.prog 11 #[x0, x1] w fun e w' => ∃ v, e = .returned v ∧ K v w' := by
  rw [F11_step] at h
  exact calls_of (c := F11_code) mixed Tryd.func11 rfl (nlt rfl) (vc_sound mixed (orcCons (π := [1, 0, 1, 1, 1]) F11_1_ok (orcNil F11_code)) F11_code [] rfl F11_code_ok _ _ _ (rsh_out h))

/-! (*ropewalk/inbox.Box).Fix -/
noncomputable def F12_code : Code := Tryd.f12.body.getD .skip
theorem F12_code_ok : okC Tryd.prog Tryd.f12.ntmps F12_code = true := by kernel_rfl
def F12_1C (Kn : Value → Value → Value → Value → Value → World → Prop) : Post := fun o t w => match o with | .normal => Kn (t 0) (t 5) (t 11) (t 12) (t 13) w | .exit i => (False) | .ret => False
def F12_1 (Kn : Value → Value → Value → Value → Value → World → Prop) (x0 : Value) (x5 : Value) (x7 : Value) (x11 : Value) (x12 : Value) (x13 : Value) (x25 : Value) (w : World) : Prop :=
  rdP x0 fun p1 => rdI .i64 x5 fun n2 => rdI .u32 x7 fun n3 => rdC x11 fun l4a l4n l4c => rdI .i64 x12 fun n5 => rdI .i64 x13 fun n6 => rdB x25 fun b7 => br b7 (nn p1 fun a8 => ldM (a8.add 1) w fun m9 => ∃ w10, Sem.run Tryd.prog (Instr.mapUpdate 78 (.map m9) (.int .u32 n3) (.int .i64 1)) w = .ok () w10 ∧ (Kn (.pointer p1) (.int .i64 (IntKind.wrap .i64 (n2 + 1))) (.slice l4a l4n l4c) (.int .i64 n5) (.int .i64 n6) w10)) (Kn (.pointer p1) (.int .i64 n2) (.slice l4a l4n l4c) (.int .i64 n5) (.int .i64 n6) w)
def F12_1O (Q : Post) (t : Tm) (w : World) : Prop := F12_1 (fun y0 y5 y11 y12 y13 w => ∀ g, rsh [(0, (.one .ptr)), (5, (.one (.int .i64))), (11, (.one .slc)), (12, (.one (.int .i64))), (13, (.one (.int .i64)))] (upds g [(0, y0), (5, y5), (11, y11), (12, y12), (13, y13)]) fun t => Q .normal t w) (t 0) (t 5) (t 7) (t 11) (t 12) (t 13) (t 25) w
theorem F12_1_step (Kn : Value → Value → Value → Value → Value → World → Prop) (t : Tm) (w : World) : (F12_1 Kn (t 0) (t 5) (t 7) (t 11) (t 12) (t 13) (t 25) w) = rsh [(0, (.one .ptr)), (5, (.one (.int .i64))), (7, (.one (.int .u32))), (11, (.one .slc)), (12, (.one (.int .i64))), (13, (.one (.int .i64))), (25, (.one .bool))] t (fun t => vc Tryd.prog (orcOf []) [1, 1, 0, 0, 1, 1, 0, 0, 1, 0, 1, 1, 1] (getAt F12_code [1, 1, 0, 0, 1, 1, 0, 0, 1, 0, 1, 1, 1]) (F12_1C Kn) t w) := by kernel_rfl
theorem F12_1_ok : ∀ Q t w, F12_1O Q t w → W Tryd.prog Tryd.f12.ntmps (getAt F12_code [1, 1, 0, 0, 1, 1, 0, 0, 1, 0, 1, 1, 1]) Q t w := by
  intro Q t w h
  unfold F12_1O at h
  rw [F12_1_step] at h
  refine (vc_sound mixed (orcNil F12_code) _ _ rfl (okC_at F12_code_ok [1, 1, 0, 0, 1, 1, 0, 0, 1, 0, 1, 1, 1]) _ _ _ (rsh_out h)).mono ?_
  intro o t w q
  cases o with
  | normal => exact out_ok [0, 5, 11, 12, 13] q
  | exit i => exact q.elim
  | ret => exact q.elim
def F12_2C (K0 : Value → World → Prop) : Post := fun o t w => match o with | .normal => False | .exit i => (match Nat.beq i 0 with | true => K0 (t 5) w | false => False) | .ret => False
def F12_2B (R : Value → Value → Value → Value → Value → World → Prop) (K0 : Value → World → Prop) (x0 : Value) (x5 : Value) (x11 : Value) (x12 : Value) (x13 : Value) (w : World) : Prop :=
  rdP x0 fun p1 => rdI .i64 x5 fun n2 => rdC x11 fun l3a l3n l3c => rdI .i64 x12 fun n4 => rdI .i64 x13 fun n5 => br (decide ((n5 : Int) < n4)) (ixS 1 l3a l3n n5 fun a6 => ldI .u32 a6 w fun n7 => Calls Tryd.prog 39 #[(.pointer p1), (.int .u32 n7)] w fun e10 w9 => ∃ b8, e10 = .returned (.bool b8) ∧ (br (!b8) (Calls Tryd.prog 40 #[(.pointer p1), (.int .u32 n7)] w9 fun e13 w12 => ∃ b11, e13 = .returned (.bool b11) ∧ (F12_1 (fun y0_13 y5_13 y11_13 y12_13 y13_13 w15 => ∀ _g16 : Tm, rdP y0_13 fun p17 => rdI .i64 y5_13 fun n18 => rdC y11_13 fun l19a l19n l19c => rdI .i64 y12_13 fun n20 => rdI .i64 y13_13 fun n21 => R (.pointer p17) (.int .i64 n18) (.slice l19a l19n l19c) (.int .i64 n20) (.int .i64 (IntKind.wrap .i64 (n21 + 1))) w15) (.pointer p1) (.int .i64 n2) (.int .u32 n7) (.slice l3a l3n l3c) (.int .i64 n4) (.int .i64 n5) (.bool b11) w12)) (F12_1 (fun y0_21 y5_21 y11_21 y12_21 y13_21 w23 => ∀ _g24 : Tm, rdP y0_21 fun p25 => rdI .i64 y5_21 fun n26 => rdC y11_21 fun l27a l27n l27c => rdI .i64 y12_21 fun n28 => rdI .i64 y13_21 fun n29 => R (.pointer p25) (.int .i64 n26) (.slice l27a l27n l27c) (.int .i64 n28) (.int .i64 (IntKind.wrap .i64 (n29 + 1))) w23) (.pointer p1) (.int .i64 n2) (.int .u32 n7) (.slice l3a l3n l3c) (.int .i64 n4) (.int .i64 n5) (.bool false) w9))) (K0 (.int .i64 n2) w)
def F12_2 (K0 : Value → World → Prop) : Nat → Value → Value → Value → Value → Value → World → Prop
  | 0 => fun _ _ _ _ _ _ => False
  | n + 1 => F12_2B (F12_2 K0 n) K0
def F12_2O (Q : Post) (t : Tm) (w : World) : Prop := ∃ n, F12_2 (fun y5 w => ∀ g, rsh [(5, (.one (.int .i64)))] (upds g [(5, y5)]) fun t => Q (.exit 0) t w) n (t 0) (t 5) (t 11) (t 12) (t 13) w
theorem F12_2_step (K0 : Value → World → Prop) (n : Nat) (t : Tm) (w : World) : (F12_2 K0 (n + 1) (t 0) (t 5) (t 11) (t 12) (t 13) w) = rsh [(0, (.one .ptr)), (5, (.one (.int .i64))), (11, (.one .slc)), (12, (.one (.int .i64))), (13, (.one (.int .i64)))] t (fun t => vc Tryd.prog (orcOf [([1, 1, 0, 0, 1, 1, 0, 0, 1, 0, 1, 1, 1], F12_1O)]) [0, 0, 1, 0, 1, 1, 1] (getAt F12_code [0, 0, 1, 0, 1, 1, 1]) (fun o t w => match o with | .normal => F12_2 K0 n (t 0) (t 5) (t 11) (t 12) (t 13) w | .exit i => F12_2C K0 (.exit i) t w | .ret => F12_2C K0 .ret t w) t w) := by kernel_rfl
theorem F12_2_ok : ∀ Q t w, F12_2O Q t w → W Tryd.prog Tryd.f12.ntmps (getAt F12_code [0, 1, 0, 1, 1, 1]) Q t w := by
  intro Q t w ⟨n, h⟩
  refine (W_loop (P := Tryd.prog) (b := getAt F12_code [0, 0, 1, 0, 1, 1, 1]) (Q := F12_2C (fun y5 w => ∀ g, rsh [(5, (.one (.int .i64)))] (upds g [(5, y5)]) fun t => Q (.exit 0) t w)) (G := fun n t w => F12_2 (fun y5 w => ∀ g, rsh [(5, (.one (.int .i64)))] (upds g [(5, y5)]) fun t => Q (.exit 0) t w) n (t 0) (t 5) (t 11) (t 12) (t 13) w) (fun _ _ h => h) (fun n t w h => ?_) n t w h).mono ?_
  · rw [F12_2_step] at h
    exact vc_sound mixed (orcCons (π := [1, 1, 0, 0, 1, 1, 0, 0, 1, 0, 1, 1, 1]) F12_1_ok (orcNil F12_code)) _ _ rfl (okC_at F12_code_ok [0, 0, 1, 0, 1, 1, 1]) _ _ _ (rsh_out h)
  · intro o t w q
    cases o with
    | normal => exact q.elim
    | exit i =>
      unfold F12_2C at q
      simp only at q
      split at q
      · rename_i hi
        rw [nbeq] at hi
        subst hi
        exact out_ok [5] q
      · exact q.elim
    | ret => exact q.elim
def F12 (x0 : Value) (x1 : Value) (w : World) (K : Value → World → Prop) : Prop :=
  rdP x0 fun p1 => rdC x1 fun l2a l2n l2c => Calls Tryd.prog 34 #[(.pointer p1)] w fun e5 w4 => ∃ b3, e5 = .returned (.bool b3) ∧ (br (!b3) (K (.int .i64 0) w4) (∃ k10 : Nat, F12_2 (fun y5_5 w7 => ∀ _g8 : Tm, rdI .i64 y5_5 fun n9 => K (.int .i64 n9) w7) k10 (.pointer p1) (.int .i64 0) (.slice l2a l2n l2c) (.int .i64 (l2n : Int)) (.int .i64 0) w4))
theorem F12_step (x0 : Value) (x1 : Value) (w : World) (K : Value → World → Prop) : (F12 x0 x1 w K) = rsh [(0, (.one .ptr)), (1, (.one .slc))] (args0 #[x0, x1]) (fun t => vc Tryd.prog (orcOf [([1, 1, 0, 0, 1, 1, 0, 0, 1, 0, 1, 1, 1], F12_1O), ([0, 1, 0, 1, 1, 1], F12_2O)]) [] F12_code (retQ Tryd.prog Tryd.f12 K) t w) := by kernel_rfl
theorem F12_ok {x0 x1 : Value} {w : World} {K : Value → World → Prop} (h : F12 x0 x1 w K) : Calls Tryd.prog 12 #[x0, x1] w fun e w' => ∃ v, e = .returned v ∧ K v w' := by
  rw [F12_step] at h
  exact calls_of (c := F12_code) mixed Tryd.func12 rfl (nlt rfl) (vc_sound mixed (orcCons (π := [1, 1, 0, 0, 1, 1, 0, 0, 1, 0, 1, 1, 1]) F12_1_ok (orcCons (π := [0, 1, 0, 1, 1, 1]) F12_2_ok (orcNil F12_code))) F12_code [] rfl F12_code_ok _ _ _ (rsh_out h))

/-! (*ropewalk/ropewalkref19.Box).Hold -/
noncomputable def F13_code : Code := Tryd.f13.body.getD .skip
theorem F13_code_ok : okC Tryd.prog Tryd.f13.ntmps F13_code = true := by kernel_rfl
def F13_1C (Kn : Value → Value → Value → Value → World → Prop) : Post := fun o t w => match o with | .normal => Kn (t 0) (t 1) (t 5) (t 6) w | .exit i => (False) | .ret => False
def F13_1 (Kn : Value → Value → Value → Value → World → Prop) (x0 : Value) (x1 : Value) (x5 : Value) (x6 : Value) (x27 : Value) (w : World) : Prop :=
  rdP x0 fun p1 => rdC x1 fun l2a l2n l2c => rdI .i64 x5 fun n3 => rdI .i64 x6 fun n4 => rdB x27 fun b5 => br b5 (drw w fun w6 => nn p1 fun a7 => ldC (a7.add 3) w6 fun l8a l8n l8c => ixS 1 l2a l2n n4 fun a9 => ldI .u32 a9 w6 fun n10 => alc (.cells #[(.int .u32 n10)] 22) w6 fun b11 w12 => Pres w6 w12 ∧ (∃ l13a l13n l13c w14, Sem.run Tryd.prog (Builtin.append_ #[34, 34] 34 #[(.slice l8a l8n l8c), (.slice (some (Addr.mk b11 0 none)) 1 1)]) w12 = .ok (.slice l13a l13n l13c) w14 ∧ (nn p1 fun a15 => stc (a15.add 3) (.slice l13a l13n l13c) w14 fun w16 => Kn (.pointer p1) (.slice l2a l2n l2c) (.int .i64 (IntKind.wrap .i64 (n3 + 1))) (.int .i64 n4) w16))) (Kn (.pointer p1) (.slice l2a l2n l2c) (.int .i64 n3) (.int .i64 n4) w)
def F13_1O (Q : Post) (t : Tm) (w : World) : Prop := F13_1 (fun y0 y1 y5 y6 w => ∀ g, rsh [(0, (.one .ptr)), (1, (.one .slc)), (5, (.one (.int .i64))), (6, (.one (.int .i64)))] (upds g [(0, y0), (1, y1), (5, y5), (6, y6)]) fun t => Q .normal t w) (t 0) (t 1) (t 5) (t 6) (t 27) w
theorem F13_1_step (Kn : Value → Value → Value → Value → World → Prop) (t : Tm) (w : World) : (F13_1 Kn (t 0) (t 1) (t 5) (t 6) (t 27) w) = rsh [(0, (.one .ptr)), (1, (.one .slc)), (5, (.one (.int .i64))), (6, (.one (.int .i64))), (27, (.one .bool))] t (fun t => vc Tryd.prog (orcOf []) [1, 0, 0, 1, 0, 0, 1, 0, 1, 1] (getAt F13_code [1, 0, 0, 1, 0, 0, 1, 0, 1, 1]) (F13_1C Kn) t w) := by kernel_rfl
theorem F13_1_ok : ∀ Q t w, F13_1O Q t w → W Tryd.prog Tryd.f13.ntmps (getAt F13_code [1, 0, 0, 1, 0, 0, 1, 0, 1, 1]) Q t w := by
  intro Q t w h
  unfold F13_1O at h
  rw [F13_1_step] at h
  refine (vc_sound mixed (orcNil F13_code) _ _ rfl (okC_at F13_code_ok [1, 0, 0, 1, 0, 0, 1, 0, 1, 1]) _ _ _ (rsh_out h)).mono ?_
  intro o t w q
  cases o with
  | normal => exact out_ok [0, 1, 5, 6] q
  | exit i => exact q.elim
  | ret => exact q.elim
def F13_2C (K0 : Value → World → Prop) : Post := fun o t w => match o with | .normal => False | .exit i => (match Nat.beq i 0 with | true => K0 (t 5) w | false => False) | .ret => False
def F13_2B (R : Value → Value → Value → Value → World → Prop) (K0 : Value → World → Prop) (x0 : Value) (x1 : Value) (x5 : Value) (x6 : Value) (w : World) : Prop :=
  rdP x0 fun p1 => rdC x1 fun l2a l2n l2c => rdI .i64 x5 fun n3 => rdI .i64 x6 fun n4 => br (decide ((n4 : Int) < (l2n : Int))) (ixS 1 l2a l2n n4 fun a5 => ldI .u32 a5 w fun n6 => Calls Tryd.prog 41 #[(.pointer p1), (.int .u32 n6)] w fun e9 w8 => ∃ b7, e9 = .returned (.bool b7) ∧ (br b7 (ixS 1 l2a l2n n4 fun a10 => ldI .u32 a10 w8 fun n11 => Calls Tryd.prog 42 #[(.pointer p1), (.int .u32 n11)] w8 fun e14 w13 => ∃ b12, e14 = .returned (.bool b12) ∧ (F13_1 (fun y0_14 y1_14 y5_14 y6_14 w16 => ∀ _g17 : Tm, rdP y0_14 fun p18 => rdC y1_14 fun l19a l19n l19c => rdI .i64 y5_14 fun n20 => rdI .i64 y6_14 fun n21 => R (.pointer p18) (.slice l19a l19n l19c) (.int .i64 n20) (.int .i64 (IntKind.wrap .i64 (n21 + 1))) w16) (.pointer p1) (.slice l2a l2n l2c) (.int .i64 n3) (.int .i64 n4) (.bool (!b12)) w13)) (F13_1 (fun y0_21 y1_21 y5_21 y6_21 w23 => ∀ _g24 : Tm, rdP y0_21 fun p25 => rdC y1_21 fun l26a l26n l26c => rdI .i64 y5_21 fun n27 => rdI .i64 y6_21 fun n28 => R (.pointer p25) (.slice l26a l26n l26c) (.int .i64 n27) (.int .i64 (IntKind.wrap .i64 (n28 + 1))) w23) (.pointer p1) (.slice l2a l2n l2c) (.int .i64 n3) (.int .i64 n4) (.bool false) w8))) (K0 (.int .i64 n3) w)
def F13_2 (K0 : Value → World → Prop) : Nat → Value → Value → Value → Value → World → Prop
  | 0 => fun _ _ _ _ _ => False
  | n + 1 => F13_2B (F13_2 K0 n) K0
def F13_2O (Q : Post) (t : Tm) (w : World) : Prop := ∃ n, F13_2 (fun y5 w => ∀ g, rsh [(5, (.one (.int .i64)))] (upds g [(5, y5)]) fun t => Q (.exit 0) t w) n (t 0) (t 1) (t 5) (t 6) w
theorem F13_2_step (K0 : Value → World → Prop) (n : Nat) (t : Tm) (w : World) : (F13_2 K0 (n + 1) (t 0) (t 1) (t 5) (t 6) w) = rsh [(0, (.one .ptr)), (1, (.one .slc)), (5, (.one (.int .i64))), (6, (.one (.int .i64)))] t (fun t => vc Tryd.prog (orcOf [([1, 0, 0, 1, 0, 0, 1, 0, 1, 1], F13_1O)]) [0, 0, 1, 0, 1, 1] (getAt F13_code [0, 0, 1, 0, 1, 1]) (fun o t w => match o with | .normal => F13_2 K0 n (t 0) (t 1) (t 5) (t 6) w | .exit i => F13_2C K0 (.exit i) t w | .ret => F13_2C K0 .ret t w) t w) := by kernel_rfl
theorem F13_2_ok : ∀ Q t w, F13_2O Q t w → W Tryd.prog Tryd.f13.ntmps (getAt F13_code [0, 1, 0, 1, 1]) Q t w := by
  intro Q t w ⟨n, h⟩
  refine (W_loop (P := Tryd.prog) (b := getAt F13_code [0, 0, 1, 0, 1, 1]) (Q := F13_2C (fun y5 w => ∀ g, rsh [(5, (.one (.int .i64)))] (upds g [(5, y5)]) fun t => Q (.exit 0) t w)) (G := fun n t w => F13_2 (fun y5 w => ∀ g, rsh [(5, (.one (.int .i64)))] (upds g [(5, y5)]) fun t => Q (.exit 0) t w) n (t 0) (t 1) (t 5) (t 6) w) (fun _ _ h => h) (fun n t w h => ?_) n t w h).mono ?_
  · rw [F13_2_step] at h
    exact vc_sound mixed (orcCons (π := [1, 0, 0, 1, 0, 0, 1, 0, 1, 1]) F13_1_ok (orcNil F13_code)) _ _ rfl (okC_at F13_code_ok [0, 0, 1, 0, 1, 1]) _ _ _ (rsh_out h)
  · intro o t w q
    cases o with
    | normal => exact q.elim
    | exit i =>
      unfold F13_2C at q
      simp only at q
      split at q
      · rename_i hi
        rw [nbeq] at hi
        subst hi
        exact out_ok [5] q
      · exact q.elim
    | ret => exact q.elim
def F13 (x0 : Value) (x1 : Value) (w : World) (K : Value → World → Prop) : Prop :=
  rdP x0 fun p1 => rdC x1 fun l2a l2n l2c => ∃ k7 : Nat, F13_2 (fun y5_2 w4 => ∀ _g5 : Tm, rdI .i64 y5_2 fun n6 => K (.int .i64 n6) w4) k7 (.pointer p1) (.slice l2a l2n l2c) (.int .i64 0) (.int .i64 0) w
theorem F13_step (x0 : Value) (x1 : Value) (w : World) (K : Value → World → Prop) : (F13 x0 x1 w K) = rsh [(0, (.one .ptr)), (1, (.one .slc))] (args0 #[x0, x1]) (fun t => vc Tryd.prog (orcOf [([1, 0, 0, 1, 0, 0, 1, 0, 1, 1], F13_1O), ([0, 1, 0, 1, 1], F13_2O)]) [] F13_code (retQ Tryd.prog Tryd.f13 K) t w) := by kernel_rfl
theorem F13_ok {x0 x1 : Value} {w : World} {K : Value → World → Prop} (h : F13 x0 x1 w K) : Calls Tryd.prog 13 #[x0, x1] w fun e w' => ∃ v, e = .returned v ∧ K v w' := by
  rw [F13_step] at h
  exact calls_of (c := F13_code) mixed Tryd.func13 rfl (nlt rfl) (vc_sound mixed (orcCons (π := [1, 0, 0, 1, 0, 0, 1, 0, 1, 1]) F13_1_ok (orcCons (π := [0, 1, 0, 1, 1]) F13_2_ok (orcNil F13_code))) F13_code [] rfl F13_code_ok _ _ _ (rsh_out h))

/-! (*ropewalk/ropewalkref19.Box).Fixed -/
noncomputable def F14_code : Code := Tryd.f14.body.getD .skip
theorem F14_code_ok : okC Tryd.prog Tryd.f14.ntmps F14_code = true := by kernel_rfl
def F14_1C (K0 : Value → World → Prop) : Post := fun o t w => match o with | .normal => False | .exit i => (match Nat.beq i 0 with | true => K0 (t 3) w | false => False) | .ret => False
def F14_1B (R : Value → Value → Value → Value → World → Prop) (K0 : Value → World → Prop) (x0 : Value) (x3 : Value) (x4 : Value) (x5 : Value) (w : World) : Prop :=
  rdP x0 fun p1 => rdC x3 fun l2a l2n l2c => rdC x4 fun l3a l3n l3c => rdI .i64 x5 fun n4 => br (decide ((n4 : Int) < (l3n : Int))) (ixS 1 l3a l3n n4 fun a5 => ldI .u32 a5 w fun n6 => Calls Tryd.prog 42 #[(.pointer p1), (.int .u32 n6)] w fun e9 w8 => ∃ b7, e9 = .returned (.bool b7) ∧ (br b7 (ixS 1 l3a l3n n4 fun a10 => ldI .u32 a10 w8 fun n11 => alc (.cells #[(.int .u32 n11)] 22) w8 fun b12 w13 => ∃ l14a l14n l14c w15, Sem.run Tryd.prog (Builtin.append_ #[34, 34] 34 #[(.slice l2a l2n l2c), (.slice (some (Addr.mk b12 0 none)) 1 1)]) w13 = .ok (.slice l14a l14n l14c) w15 ∧ (R (.pointer p1) (.slice l14a l14n l14c) (.slice l3a l3n l3c) (.int .i64 (IntKind.wrap .i64 (n4 + 1))) w15)) (R (.pointer p1) (.slice l2a l2n l2c) (.slice l3a l3n l3c) (.int .i64 (IntKind.wrap .i64 (n4 + 1))) w8))) (K0 (.slice l2a l2n l2c) w)
def F14_1 (K0 : Value → World → Prop) : Nat → Value → Value → Value → Value → World → Prop
  | 0 => fun _ _ _ _ _ => False
  | n + 1 => F14_1B (F14_1 K0 n) K0
def F14_1O (Q : Post) (t : Tm) (w : World) : Prop := ∃ n, F14_1 (fun y3 w => ∀ g, rsh [(3, (.one .slc))] (upds g [(3, y3)]) fun t => Q (.exit 0) t w) n (t 0) (t 3) (t 4) (t 5) w
theorem F14_1_step (K0 : Value → World → Prop) (n : Nat) (t : Tm) (w : World) : (F14_1 K0 (n + 1) (t 0) (t 3) (t 4) (t 5) w) = rsh [(0, (.one .ptr)), (3, (.one .slc)), (4, (.one .slc)), (5, (.one (.int .i64)))] t (fun t => vc Tryd.prog (orcOf []) [0, 0, 1, 0, 1, 1, 1] (getAt F14_code [0, 0, 1, 0, 1, 1, 1]) (fun o t w => match o with | .normal => F14_1 K0 n (t 0) (t 3) (t 4) (t 5) w | .exit i => F14_1C K0 (.exit i) t w | .ret => F14_1C K0 .ret t w) t w) := by kernel_rfl
theorem F14_1_ok : ∀ Q t w, F14_1O Q t w → W Tryd.prog Tryd.f14.ntmps (getAt F14_code [0, 1, 0, 1, 1, 1]) Q t w := by
  intro Q t w ⟨n, h⟩
  refine (W_loop (P := Tryd.prog) (b := getAt F14_code [0, 0, 1, 0, 1, 1, 1]) (Q := F14_1C (fun y3 w => ∀ g, rsh [(3, (.one .slc))] (upds g [(3, y3)]) fun t => Q (.exit 0) t w)) (G := fun n t w => F14_1 (fun y3 w => ∀ g, rsh [(3, (.one .slc))] (upds g [(3, y3)]) fun t => Q (.exit 0) t w) n (t 0) (t 3) (t 4) (t 5) w) (fun _ _ h => h) (fun n t w h => ?_) n t w h).mono ?_
  · rw [F14_1_step] at h
    exact vc_sound mixed (orcNil F14_code) _ _ rfl (okC_at F14_code_ok [0, 0, 1, 0, 1, 1, 1]) _ _ _ (rsh_out h)
  · intro o t w q
    cases o with
    | normal => exact q.elim
    | exit i =>
      unfold F14_1C at q
      simp only at q
      split at q
      · rename_i hi
        rw [nbeq] at hi
        subst hi
        exact out_ok [3] q
      · exact q.elim
    | ret => exact q.elim
def F14 (x0 : Value) (w : World) (K : Value → World → Prop) : Prop :=
  rdP x0 fun p1 => nn p1 fun a2 => ldP (a2.add 0) w fun p3 => Calls Tryd.prog 26 #[(.pointer p3)] w fun e6 w5 => ∃ l4a l4n l4c, e6 = .returned (.slice l4a l4n l4c) ∧ (∃ k11 : Nat, F14_1 (fun y3_6 w8 => ∀ _g9 : Tm, rdC y3_6 fun l10a l10n l10c => K (.slice l10a l10n l10c) w8) k11 (.pointer p1) (.slice none 0 0) (.slice l4a l4n l4c) (.int .i64 0) w5)
theorem F14_step (x0 : Value) (w : World) (K : Value → World → Prop) : (F14 x0 w K) = rsh [(0, (.one .ptr))] (args0 #[x0]) (fun t => vc Tryd.prog (orcOf [([0, 1, 0, 1, 1, 1], F14_1O)]) [] F14_code (retQ Tryd.prog Tryd.f14 K) t w) := by kernel_rfl
theorem F14_ok {x0 : Value} {w : World} {K : Value → World → Prop} (h : F14 x0 w K) : Calls Tryd.prog 14 #[x0] w fun e w' => ∃ v, e = .returned v ∧ K v w' := by
  rw [F14_step] at h
  exact calls_of (c := F14_code) mixed Tryd.func14 rfl (nlt rfl) (vc_sound mixed (orcCons (π := [0, 1, 0, 1, 1, 1]) F14_1_ok (orcNil F14_code)) F14_code [] rfl F14_code_ok _ _ _ (rsh_out h))

/-! ropewalk/ropewalkref01.Less -/
noncomputable def F15_code : Code := Tryd.f15.body.getD .skip
theorem F15_code_ok : okC Tryd.prog Tryd.f15.ntmps F15_code = true := by kernel_rfl
def F15 (x0 : Value) (x1 : Value) (w : World) (K : Value → World → Prop) : Prop :=
  rdI .u32 x0 fun n1 => rdI .u32 x1 fun n2 => Calls Tryd.prog 18 #[(.int .u32 n1), (.int .u32 n2)] w fun e5 w4 => ∃ n3, e5 = .returned (.int .i64 n3) ∧ (K (.bool (decide ((n3 : Int) > 0))) w4)
theorem F15_step (x0 : Value) (x1 : Value) (w : World) (K : Value → World → Prop) : (F15 x0 x1 w K) = rsh [(0, (.one (.int .u32))), (1, (.one (.int .u32)))] (args0 #[x0, x1]) (fun t => vc Tryd.prog (orcOf []) [] F15_code (retQ Tryd.prog Tryd.f15 K) t w) := by kernel_rfl
theorem F15_ok {x0 x1 : Value} {w : World} {K : Value → World → Prop} (h : F15 x0 x1 w K) : Calls Tryd.prog 15 #[x0, x1] w fun e w' => ∃ v, e = .returned v ∧ K v w' := by
  rw [F15_step] at h
  exact calls_of (c := F15_code) mixed Tryd.func15 rfl (nlt rfl) (vc_sound mixed (orcNil F15_code) F15_code [] rfl F15_code_ok _ _ _ (rsh_out h))

/-! ropewalk/ropewalklaw19.act -/
noncomputable def F16_code : Code := Tryd.f16.body.getD .skip
theorem F16_code_ok : okC Tryd.prog Tryd.f16.ntmps F16_code = true := by kernel_rfl
def F16_1C (Kr : Value → World → Prop) : Post := fun o t w => match o with | .normal => False | .exit i => (False) | .ret => Kr (t 6) w
def F16_1 (Kr : Value → World → Prop) (x0 : Value) (x1 : Value) (x5 : Value) (x7 : Value) (x8 : Value) (w : World) : Prop :=
  rdP x0 fun p1 => rdP x1 fun p2 => rdA x5 fun a3 => rdC x7 fun l4a l4n l4c => rdI .u32 x8 fun n5 => ldI .i64 (a3.add 0) w fun n6 => br (n6 == 1) (Calls Tryd.prog 10 #[(.pointer p1), (.int .u32 n5)] w fun e10 w9 => ∃ b7 n8, e10 = .returned (.tuple #[(.bool b7), (.int .i64 n8)]) ∧ (Calls Tryd.prog 11 #[(.pointer p2), (.int .u32 n5)] w9 fun e14 w13 => ∃ b11 n12, e14 = .returned (.tuple #[(.bool b11), (.int .i64 n12)]) ∧ (br (b7 == b11) (Kr (.bool (n8 == n12)) w13) (Kr (.bool false) w13)))) (br (n6 == 2) (Calls Tryd.prog 31 #[(.pointer p1), (.int .u32 n5)] w fun e17 w16 => ∃ b15, e17 = .returned (.bool b15) ∧ (Calls Tryd.prog 44 #[(.pointer p2), (.int .u32 n5)] w16 fun e20 w19 => ∃ b18, e20 = .returned (.bool b18) ∧ (Kr (.bool (b15 == b18)) w19))) (br (n6 == 3) (Calls Tryd.prog 12 #[(.pointer p1), (.slice l4a l4n l4c)] w fun e23 w22 => ∃ n21, e23 = .returned (.int .i64 n21) ∧ (Calls Tryd.prog 13 #[(.pointer p2), (.slice l4a l4n l4c)] w22 fun e26 w25 => ∃ n24, e26 = .returned (.int .i64 n24) ∧ (Kr (.bool (n21 == n24)) w25))) (br (n6 == 4) (drw w fun w27 => ∃ w28 : World, Pres w28 w27 ∧ (ldI .i64 (a3.add 2) w27 fun n29 => ldI .i64 (a3.add 2) w28 fun n30 => Calls Tryd.prog 21 #[(.pointer p1), (.int .i64 n29)] w27 fun e33 w32 => ∃ n31, e33 = .returned (.int .i64 n31) ∧ (Pres w28 w32 ∧ (Calls Tryd.prog 45 #[(.pointer p2), (.int .i64 n30)] w32 fun e36 w35 => ∃ n34, e36 = .returned (.int .i64 n34) ∧ (Kr (.bool (n31 == n34)) w35))))) (br (n6 == 5) (ldI .i64 (a3.add 2) w fun n37 => Calls Tryd.prog 17 #[(.pointer p1), (.int .u32 (IntKind.wrap .u32 ((l4n : Int)))), (.int .i64 n37)] w fun e55 w54 => ∃ n38 n39 n40 n41 n42 n43 n44 n45 n46 n47 l48a l48n l48c l49a l49n l49c l50a l50n l50c l51a l51n l51c l52a l52n l52c n53, e55 = .returned (.tuple #[(.agg #[(.int .u8 n38), (.int .u8 n39), (.int .u32 n40), (.int .u16 n41), (.int .u16 n42), (.int .u32 n43), (.int .u32 n44), (.int .u32 n45), (.int .u16 n46), (.int .u16 n47), (.slice l48a l48n l48c), (.slice l49a l49n l49c), (.slice l50a l50n l50c), (.slice l51a l51n l51c), (.slice l52a l52n l52c)]), (.int .i64 n53)]) ∧ (alc (.cells #[(.int .u8 0), (.int .u8 0), (.int .u32 0), (.int .u16 0), (.int .u16 0), (.int .u32 0), (.int .u32 0), (.int .u32 0), (.int .u16 0), (.int .u16 0), (.slice none 0 0), (.slice none 0 0), (.slice none 0 0), (.slice none 0 0), (.slice none 0 0)] 54) w54 fun b56 w57 => stc ((Addr.mk b56 0 none).add 0) (.int .u8 n38) w57 fun w58 => stc ((Addr.mk b56 0 none).add 1) (.int .u8 n39) w58 fun w59 => stc ((Addr.mk b56 0 none).add 2) (.int .u32 n40) w59 fun w60 => stc ((Addr.mk b56 0 none).add 3) (.int .u16 n41) w60 fun w61 => stc ((Addr.mk b56 0 none).add 4) (.int .u16 n42) w61 fun w62 => stc ((Addr.mk b56 0 none).add 5) (.int .u32 n43) w62 fun w63 => stc ((Addr.mk b56 0 none).add 6) (.int .u32 n44) w63 fun w64 => stc ((Addr.mk b56 0 none).add 7) (.int .u32 n45) w64 fun w65 => stc ((Addr.mk b56 0 none).add 8) (.int .u16 n46) w65 fun w66 => stc ((Addr.mk b56 0 none).add 9) (.int .u16 n47) w66 fun w67 => stc ((Addr.mk b56 0 none).add 10) (.slice l48a l48n l48c) w67 fun w68 => stc ((Addr.mk b56 0 none).add 11) (.slice l49a l49n l49c) w68 fun w69 => stc ((Addr.mk b56 0 none).add 12) (.slice l50a l50n l50c) w69 fun w70 => stc ((Addr.mk b56 0 none).add 13) (.slice l51a l51n l51c) w70 fun w71 => stc ((Addr.mk b56 0 none).add 14) (.slice l52a l52n l52c) w71 fun w72 => ldI .i64 (a3.add 2) w72 fun n73 => Calls Tryd.prog 46 #[(.pointer p2), (.int .u32 (IntKind.wrap .u32 ((l4n : Int)))), (.int .i64 n73)] w72 fun e91 w90 => ∃ n74 n75 n76 n77 n78 n79 n80 n81 n82 n83 l84a l84n l84c l85a l85n l85c l86a l86n l86c l87a l87n l87c l88a l88n l88c n89, e91 = .returned (.tuple #[(.agg #[(.int .u8 n74), (.int .u8 n75), (.int .u32 n76), (.int .u16 n77), (.int .u16 n78), (.int .u32 n79), (.int .u32 n80), (.int .u32 n81), (.int .u16 n82), (.int .u16 n83), (.slice l84a l84n l84c), (.slice l85a l85n l85c), (.slice l86a l86n l86c), (.slice l87a l87n l87c), (.slice l88a l88n l88c)]), (.int .i64 n89)]) ∧ (alc (.cells #[(.int .u8 0), (.int .u8 0), (.int .u32 0), (.int .u16 0), (.int .u16 0), (.int .u32 0), (.int .u32 0), (.int .u32 0), (.int .u16 0), (.int .u16 0), (.slice none 0 0), (.slice none 0 0), (.slice none 0 0), (.slice none 0 0), (.slice none 0 0)] 54) w90 fun b92 w93 => stc ((Addr.mk b92 0 none).add 0) (.int .u8 n74) w93 fun w94 => stc ((Addr.mk b92 0 none).add 1) (.int .u8 n75) w94 fun w95 => stc ((Addr.mk b92 0 none).add 2) (.int .u32 n76) w95 fun w96 => stc ((Addr.mk b92 0 none).add 3) (.int .u16 n77) w96 fun w97 => stc ((Addr.mk b92 0 none).add 4) (.int .u16 n78) w97 fun w98 => stc ((Addr.mk b92 0 none).add 5) (.int .u32 n79) w98 fun w99 => stc ((Addr.mk b92 0 none).add 6) (.int .u32 n80) w99 fun w100 => stc ((Addr.mk b92 0 none).add 7) (.int .u32 n81) w100 fun w101 => stc ((Addr.mk b92 0 none).add 8) (.int .u16 n82) w101 fun w102 => stc ((Addr.mk b92 0 none).add 9) (.int .u16 n83) w102 fun w103 => stc ((Addr.mk b92 0 none).add 10) (.slice l84a l84n l84c) w103 fun w104 => stc ((Addr.mk b92 0 none).add 11) (.slice l85a l85n l85c) w104 fun w105 => stc ((Addr.mk b92 0 none).add 12) (.slice l86a l86n l86c) w105 fun w106 => stc ((Addr.mk b92 0 none).add 13) (.slice l87a l87n l87c) w106 fun w107 => stc ((Addr.mk b92 0 none).add 14) (.slice l88a l88n l88c) w107 fun w108 => ldI .u8 ((Addr.mk b56 0 none).add 0) w108 fun n109 => ldI .u8 ((Addr.mk b56 0 none).add 1) w108 fun n110 => ldI .u32 ((Addr.mk b56 0 none).add 2) w108 fun n111 => ldI .u16 ((Addr.mk b56 0 none).add 3) w108 fun n112 => ldI .u16 ((Addr.mk b56 0 none).add 4) w108 fun n113 => ldI .u32 ((Addr.mk b56 0 none).add 5) w108 fun n114 => ldI .u32 ((Addr.mk b56 0 none).add 6) w108 fun n115 => ldI .u32 ((Addr.mk b56 0 none).add 7) w108 fun n116 => ldI .u16 ((Addr.mk b56 0 none).add 8) w108 fun n117 => ldI .u16 ((Addr.mk b56 0 none).add 9) w108 fun n118 => ldC ((Addr.mk b56 0 none).add 10) w108 fun l119a l119n l119c => ldC ((Addr.mk b56 0 none).add 11) w108 fun l120a l120n l120c => ldC ((Addr.mk b56 0 none).add 12) w108 fun l121a l121n l121c => ldC ((Addr.mk b56 0 none).add 13) w108 fun l122a l122n l122c => ldC ((Addr.mk b56 0 none).add 14) w108 fun l123a l123n l123c => ldI .u8 ((Addr.mk b92 0 none).add 0) w108 fun n124 => ldI .u8 ((Addr.mk b92 0 none).add 1) w108 fun n125 => ldI .u32 ((Addr.mk b92 0 none).add 2) w108 fun n126 => ldI .u16 ((Addr.mk b92 0 none).add 3) w108 fun n127 => ldI .u16 ((Addr.mk b92 0 none).add 4) w108 fun n128 => ldI .u32 ((Addr.mk b92 0 none).add 5) w108 fun n129 => ldI .u32 ((Addr.mk b92 0 none).add 6) w108 fun n130 => ldI .u32 ((Addr.mk b92 0 none).add 7) w108 fun n131 => ldI .u16 ((Addr.mk b92 0 none).add 8) w108 fun n132 => ldI .u16 ((Addr.mk b92 0 none).add 9) w108 fun n133 => ldC ((Addr.mk b92 0 none).add 10) w108 fun l134a l134n l134c => ldC ((Addr.mk b92 0 none).add 11) w108 fun l135a l135n l135c => ldC ((Addr.mk b92 0 none).add 12) w108 fun l136a l136n l136c => ldC ((Addr.mk b92 0 none).add 13) w108 fun l137a l137n l137c => ldC ((Addr.mk b92 0 none).add 14) w108 fun l138a l138n l138c => Calls Tryd.prog 47 #[(.agg #[(.int .u8 n109), (.int .u8 n110), (.int .u32 n111), (.int .u16 n112), (.int .u16 n113), (.int .u32 n114), (.int .u32 n115), (.int .u32 n116), (.int .u16 n117), (.int .u16 n118), (.slice l119a l119n l119c), (.slice l120a l120n l120c), (.slice l121a l121n l121c), (.slice l122a l122n l122c), (.slice l123a l123n l123c)]), (.agg #[(.int .u8 n124), (.int .u8 n125), (.int .u32 n126), (.int .u16 n127), (.int .u16 n128), (.int .u32 n129), (.int .u32 n130), (.int .u32 n131), (.int .u16 n132), (.int .u16 n133), (.slice l134a l134n l134c), (.slice l135a l135n l135c), (.slice l136a l136n l136c), (.slice l137a l137n l137c), (.slice l138a l138n l138c)])] w108 fun e141 w140 => ∃ b139, e141 = .returned (.bool b139) ∧ (br b139 (Kr (.bool (n53 == n89)) w140) (Kr (.bool false) w140))))) (drw w fun w142 => ∃ w143 : World, Pres w143 w142 ∧ (nn p2 fun a144 => ldP (a144.add 0) w143 fun p145 => Calls Tryd.prog 20 #[(.pointer p1), (.int .u32 n5)] w142 fun e148 w147 => ∃ b146, e148 = .returned (.bool b146) ∧ (Pres w143 w147 ∧ (Calls Tryd.prog 48 #[(.pointer p145), (.int .u32 n5)] w147 fun e151 w150 => ∃ b149, e151 = .returned (.bool b149) ∧ (Kr (.bool (b146 == b149)) w150)))))))))
def F16_1O (Q : Post) (t : Tm) (w : World) : Prop := F16_1 (fun y6 w => ∀ g, rsh [(6, (.one .bool))] (upds g [(6, y6)]) fun t => Q .ret t w) (t 0) (t 1) (t 5) (t 7) (t 8) w
theorem F16_1_step (Kr : Value → World → Prop) (t : Tm) (w : World) : (F16_1 Kr (t 0) (t 1) (t 5) (t 7) (t 8) w) = rsh [(0, (.one .ptr)), (1, (.one .ptr)), (5, (.one .adr)), (7, (.one .slc)), (8, (.one (.int .u32)))] t (fun t => vc Tryd.prog (orcOf []) [1, 1, 1, 1] (getAt F16_code [1, 1, 1, 1]) (F16_1C Kr) t w) := by kernel_rfl
theorem F16_1_ok : ∀ Q t w, F16_1O Q t w → W Tryd.prog Tryd.f16.ntmps (getAt F16_code [1, 1, 1, 1]) Q t w := by
  intro Q t w h
  unfold F16_1O at h
  rw [F16_1_step] at h
  refine (vc_sound mixed (orcNil F16_code) _ _ rfl (okC_at F16_code_ok [1, 1, 1, 1]) _ _ _ (rsh_out h)).mono ?_
  intro o t w q
  cases o with
  | normal => exact q.elim
  | exit i => exact q.elim
  | ret => exact out_ok [6] q
def F16 (x0 : Value) (x1 : Value) (x2 : Value) (w : World) (K : Value → World → Prop) : Prop :=
  rdP x0 fun p1 => rdP x1 fun p2 => ∃ n3 l4a l4n l4c n5, x2 = (.agg #[(.int .i64 n3), (.slice l4a l4n l4c), (.int .i64 n5)]) ∧ (alc (.cells #[(.int .i64 n3), (.slice l4a l4n l4c), (.int .i64 n5)] 48) w fun b6 w7 => drw w7 fun w8 => nn p2 fun a9 => ldP (a9.add 0) w8 fun p10 => nn p10 fun a11 => ldI .u32 (a11.add 0) w8 fun n12 => ldC ((Addr.mk b6 0 none).add 1) w8 fun l13a l13n l13c => Calls Tryd.prog 43 #[(.int .u32 n12), (.slice l13a l13n l13c)] w8 fun e16 w15 => ∃ l14a l14n l14c, e16 = .returned (.slice l14a l14n l14c) ∧ (nn p2 fun a17 => ldP (a17.add 0) w15 fun p18 => nn p18 fun a19 => ldI .u32 (a19.add 0) w15 fun n20 => Calls Tryd.prog 9 #[(.int .u32 n20), (.int .u32 1)] w15 fun e23 w22 => ∃ n21, e23 = .returned (.int .u32 n21) ∧ (br (decide (((l14n : Int) : Int) > 0)) (ixS 1 l14a l14n 0 fun a24 => ldI .u32 a24 w22 fun n25 => F16_1 (fun y6_25 w27 => ∀ _g28 : Tm, rdB y6_25 fun b29 => K (.bool b29) w27) (.pointer p1) (.pointer p2) (.pointer (some (Addr.mk b6 0 none))) (.slice l14a l14n l14c) (.int .u32 n25) w22) (F16_1 (fun y6_29 w31 => ∀ _g32 : Tm, rdB y6_29 fun b33 => K (.bool b33) w31) (.pointer p1) (.pointer p2) (.pointer (some (Addr.mk b6 0 none))) (.slice l14a l14n l14c) (.int .u32 n21) w22))))
theorem F16_step (x0 : Value) (x1 : Value) (x2 : Value) (w : World) (K : Value → World → Prop) : (F16 x0 x1 x2 w K) = rsh [(0, (.one .ptr)), (1, (.one .ptr)), (2, (.agg [(.int .i64), .slc, (.int .i64)]))] (args0 #[x0, x1, x2]) (fun t => vc Tryd.prog (orcOf [([1, 1, 1, 1], F16_1O)]) [] F16_code (retQ Tryd.prog Tryd.f16 K) t w) := by kernel_rfl
theorem F16_ok {x0 x1 x2 : Value} {w : World} {K : Value → World → Prop} (h : F16 x0 x1 x2 w K) : Calls Tryd.prog 16 #[x0, x1, x2] w fun e w' => ∃ v, e = .returned v ∧ K v w' := by
  rw [F16_step] at h
  exact calls_of (c := F16_code) mixed Tryd.func16 rfl (nlt rfl) (vc_sound mixed (orcCons (π := [1, 1, 1, 1]) F16_1_ok (orcNil F16_code)) F16_code [] rfl F16_code_ok _ _ _ (rsh_out h))

/-! (*ropewalk/inbox.Box).Report -/
noncomputable def F17_code : Code := Tryd.f17.body.getD .skip
theorem F17_code_ok : okC Tryd.prog Tryd.f17.ntmps F17_code = true := by kernel_rfl
def F17_1C (Kr : Value → Value → World → Prop) : Post := fun o t w => match o with | .normal => False | .exit i => (False) | .ret => Kr (t 6) (t 7) w
def F17_1 (Kr : Value → Value → World → Prop) (x2 : Value) (x3 : Value) (x6 : Value) (x8 : Value) (w : World) : Prop :=
  rdI .i64 x2 fun n1 => rdA x3 fun a2 => rdA x6 fun a3 => rdA x8 fun a4 => ldP a2 w fun p5 => Calls Tryd.prog 49 #[(.pointer p5), (.int .i64 n1), (.func (.func 50) #[] #[(.pointer (some a2))])] w fun e8 w7 => ∃ l6a l6n l6c, e8 = .returned (.slice l6a l6n l6c) ∧ (stc (a4.add 10) (.slice l6a l6n l6c) w7 fun w9 => drw w9 fun w10 => ldP a2 w10 fun p11 => nn p11 fun a12 => ldC (a12.add 2) w10 fun l13a l13n l13c => ldP a2 w10 fun p14 => nn p14 fun a15 => ldC (a15.add 2) w10 fun l16a l16n l16c => Pres w10 w10 ∧ (slS 1 l13a l13n l13c none (some (.int .i64 (if ((l16n : Int) : Int) < n1 then (l16n : Int) else n1))) fun l17a l17n l17c => Calls Tryd.prog 51 #[(.slice l17a l17n l17c)] w10 fun e20 w19 => ∃ l18a l18n l18c, e20 = .returned (.slice l18a l18n l18c) ∧ (stc (a4.add 12) (.slice l18a l18n l18c) w19 fun w21 => drw w21 fun w22 => ∃ w23 : World, Pres w23 w22 ∧ (ldP a2 w22 fun p24 => ldP a2 w23 fun p25 => ldP a2 w23 fun p26 => ldP a2 w23 fun p27 => nn p24 fun a28 => stc (a28.add 2) (.slice none 0 0) w22 fun w29 => Pres w23 w29 ∧ (nn p25 fun a30 => stc (a30.add 5) (.int .i64 0) w29 fun w31 => Pres w23 w31 ∧ (nn p26 fun a32 => stc (a32.add 7) (.int .i64 (-1)) w31 fun w33 => Pres w23 w33 ∧ (nn p27 fun a34 => stc (a34.add 6) (.bool true) w33 fun w35 => ldI .u8 (a4.add 0) w35 fun n36 => ldI .u8 (a4.add 1) w35 fun n37 => ldI .u32 (a4.add 2) w35 fun n38 => ldI .u16 (a4.add 3) w35 fun n39 => ldI .u16 (a4.add 4) w35 fun n40 => ldI .u32 (a4.add 5) w35 fun n41 => ldI .u32 (a4.add 6) w35 fun n42 => ldI .u32 (a4.add 7) w35 fun n43 => ldI .u16 (a4.add 8) w35 fun n44 => ldI .u16 (a4.add 9) w35 fun n45 => ldC (a4.add 10) w35 fun l46a l46n l46c => ldC (a4.add 11) w35 fun l47a l47n l47c => ldC (a4.add 12) w35 fun l48a l48n l48c => ldC (a4.add 13) w35 fun l49a l49n l49c => ldC (a4.add 14) w35 fun l50a l50n l50c => stc (a3.add 0) (.int .u8 n36) w35 fun w51 => stc (a3.add 1) (.int .u8 n37) w51 fun w52 => stc (a3.add 2) (.int .u32 n38) w52 fun w53 => stc (a3.add 3) (.int .u16 n39) w53 fun w54 => stc (a3.add 4) (.int .u16 n40) w54 fun w55 => stc (a3.add 5) (.int .u32 n41) w55 fun w56 => stc (a3.add 6) (.int .u32 n42) w56 fun w57 => stc (a3.add 7) (.int .u32 n43) w57 fun w58 => stc (a3.add 8) (.int .u16 n44) w58 fun w59 => stc (a3.add 9) (.int .u16 n45) w59 fun w60 => stc (a3.add 10) (.slice l46a l46n l46c) w60 fun w61 => stc (a3.add 11) (.slice l47a l47n l47c) w61 fun w62 => stc (a3.add 12) (.slice l48a l48n l48c) w62 fun w63 => stc (a3.add 13) (.slice l49a l49n l49c) w63 fun w64 => stc (a3.add 14) (.slice l50a l50n l50c) w64 fun w65 => Kr (.pointer (some a3)) (.int .i64 0) w65)))))))
def F17_1O (Q : Post) (t : Tm) (w : World) : Prop := F17_1 (fun y6 y7 w => ∀ g, rsh [(6, (.one .adr)), (7, (.one (.int .i64)))] (upds g [(6, y6), (7, y7)]) fun t => Q .ret t w) (t 2) (t 3) (t 6) (t 8) w
theorem F17_1_step (Kr : Value → Value → World → Prop) (t : Tm) (w : World) : (F17_1 Kr (t 2) (t 3) (t 6) (t 8) w) = rsh [(2, (.one (.int .i64))), (3, (.one .adr)), (6, (.one .adr)), (8, (.one .adr))] t (fun t => vc Tryd.prog (orcOf []) [1, 1, 1, 1, 1] (getAt F17_code [1, 1, 1, 1, 1]) (F17_1C Kr) t w) := by kernel_rfl
theorem F17_1_ok : ∀ Q t w, F17_1O Q t w → W Tryd.prog Tryd.f17.ntmps (getAt F17_code [1, 1, 1, 1, 1]) Q t w := by
  intro Q t w h
  unfold F17_1O at h
  rw [F17_1_step] at h
  refine (vc_sound mixed (orcNil F17_code) _ _ rfl (okC_at F17_code_ok [1, 1, 1, 1, 1]) _ _ _ (rsh_out h)).mono ?_
  intro o t w q
  cases o with
  | normal => exact q.elim
  | exit i => exact q.elim
  | ret => exact out_ok [6, 7] q
def F17_2C (Kr : Value → Value → World → Prop) : Post := fun o t w => match o with | .normal => False | .exit i => (False) | .ret => Kr (t 6) (t 7) w
def F17_2 (Kr : Value → Value → World → Prop) (x1 : Value) (x2 : Value) (x3 : Value) (x6 : Value) (w : World) : Prop :=
  rdI .u32 x1 fun n1 => rdI .i64 x2 fun n2 => rdA x3 fun a3 => rdA x6 fun a4 => ldP a3 w fun p5 => nn p5 fun a6 => ldP (a6.add 0) w fun p7 => Calls Tryd.prog 35 #[(.pointer p7)] w fun e10 w9 => ∃ n8, e10 = .returned (.int .u32 n8) ∧ (alc (.cells #[(.int .u8 0), (.int .u8 0), (.int .u32 0), (.int .u16 0), (.int .u16 0), (.int .u32 0), (.int .u32 0), (.int .u32 0), (.int .u16 0), (.int .u16 0), (.slice none 0 0), (.slice none 0 0), (.slice none 0 0), (.slice none 0 0), (.slice none 0 0)] 54) w9 fun b11 w12 => stc ((Addr.mk b11 0 none).add 0) (.int .u8 3) w12 fun w13 => stc ((Addr.mk b11 0 none).add 1) (.int .u8 0) w13 fun w14 => stc ((Addr.mk b11 0 none).add 2) (.int .u32 n8) w14 fun w15 => stc ((Addr.mk b11 0 none).add 3) (.int .u16 0) w15 fun w16 => stc ((Addr.mk b11 0 none).add 4) (.int .u16 0) w16 fun w17 => stc ((Addr.mk b11 0 none).add 5) (.int .u32 0) w17 fun w18 => stc ((Addr.mk b11 0 none).add 6) (.int .u32 0) w18 fun w19 => stc ((Addr.mk b11 0 none).add 7) (.int .u32 n1) w19 fun w20 => stc ((Addr.mk b11 0 none).add 8) (.int .u16 0) w20 fun w21 => stc ((Addr.mk b11 0 none).add 9) (.int .u16 0) w21 fun w22 => stc ((Addr.mk b11 0 none).add 10) (.slice none 0 0) w22 fun w23 => stc ((Addr.mk b11 0 none).add 11) (.slice none 0 0) w23 fun w24 => stc ((Addr.mk b11 0 none).add 12) (.slice none 0 0) w24 fun w25 => stc ((Addr.mk b11 0 none).add 13) (.slice none 0 0) w25 fun w26 => stc ((Addr.mk b11 0 none).add 14) (.slice none 0 0) w26 fun w27 => ldP a3 w27 fun p28 => nn p28 fun a29 => ldB (a29.add 4) w27 fun b30 => br b30 (stc ((Addr.mk b11 0 none).add 0) (.int .u8 16) w27 fun w31 => ldP a3 w31 fun p32 => ldP a3 w31 fun p33 => Calls Tryd.prog 49 #[(.pointer p32), (.int .i64 n2), (.func (.func 39) #[(.pointer p33)] #[])] w31 fun e36 w35 => ∃ l34a l34n l34c, e36 = .returned (.slice l34a l34n l34c) ∧ (stc ((Addr.mk b11 0 none).add 11) (.slice l34a l34n l34c) w35 fun w37 => F17_1 (fun y6_37 y7_37 w39 => ∀ _g40 : Tm, rdA y6_37 fun a41 => rdI .i64 y7_37 fun n42 => Kr (.pointer (some a41)) (.int .i64 n42) w39) (.int .i64 n2) (.pointer (some a3)) (.pointer (some a4)) (.pointer (some (Addr.mk b11 0 none))) w37)) (F17_1 (fun y6_42 y7_42 w44 => ∀ _g45 : Tm, rdA y6_42 fun a46 => rdI .i64 y7_42 fun n47 => Kr (.pointer (some a46)) (.int .i64 n47) w44) (.int .i64 n2) (.pointer (some a3)) (.pointer (some a4)) (.pointer (some (Addr.mk b11 0 none))) w27))
def F17_2O (Q : Post) (t : Tm) (w : World) : Prop := F17_2 (fun y6 y7 w => ∀ g, rsh [(6, (.one .adr)), (7, (.one (.int .i64)))] (upds g [(6, y6), (7, y7)]) fun t => Q .ret t w) (t 1) (t 2) (t 3) (t 6) w
theorem F17_2_step (Kr : Value → Value → World → Prop) (t : Tm) (w : World) : (F17_2 Kr (t 1) (t 2) (t 3) (t 6) w) = rsh [(1, (.one (.int .u32))), (2, (.one (.int .i64))), (3, (.one .adr)), (6, (.one .adr))] t (fun t => vc Tryd.prog (orcOf [([1, 1, 1, 1, 1], F17_1O)]) [1, 1, 1] (getAt F17_code [1, 1, 1]) (F17_2C Kr) t w) := by kernel_rfl
theorem F17_2_ok : ∀ Q t w, F17_2O Q t w → W Tryd.prog Tryd.f17.ntmps (getAt F17_code [1, 1, 1]) Q t w := by
  intro Q t w h
  unfold F17_2O at h
  rw [F17_2_step] at h
  refine (vc_sound mixed (orcCons (π := [1, 1, 1, 1, 1]) F17_1_ok (orcNil F17_code)) _ _ rfl (okC_at F17_code_ok [1, 1, 1]) _ _ _ (rsh_out h)).mono ?_
  intro o t w q
  cases o with
  | normal => exact q.elim
  | exit i => exact q.elim
  | ret => exact out_ok [6, 7] q
def F17 (x0 : Value) (x1 : Value) (x2 : Value) (w : World) (K : Value → World → Prop) : Prop :=
  rdP x0 fun p1 => rdI .u32 x1 fun n2 => rdI .i64 x2 fun n3 => alc (.cells #[(.pointer p1)] 25) w fun b4 w5 => alc (.cells #[(.int .u8 0), (.int .u8 0), (.int .u32 0), (.int .u16 0), (.int .u16 0), (.int .u32 0), (.int .u32 0), (.int .u32 0), (.int .u16 0), (.int .u16 0), (.slice none 0 0), (.slice none 0 0), (.slice none 0 0), (.slice none 0 0), (.slice none 0 0)] 54) w5 fun b6 w7 => ldP (Addr.mk b4 0 none) w7 fun p8 => Calls Tryd.prog 34 #[(.pointer p8)] w7 fun e11 w10 => ∃ b9, e11 = .returned (.bool b9) ∧ (br (!b9) (stc ((Addr.mk b6 0 none).add 0) (.int .u8 0) w10 fun w12 => stc ((Addr.mk b6 0 none).add 1) (.int .u8 0) w12 fun w13 => stc ((Addr.mk b6 0 none).add 2) (.int .u32 0) w13 fun w14 => stc ((Addr.mk b6 0 none).add 3) (.int .u16 0) w14 fun w15 => stc ((Addr.mk b6 0 none).add 4) (.int .u16 0) w15 fun w16 => stc ((Addr.mk b6 0 none).add 5) (.int .u32 0) w16 fun w17 => stc ((Addr.mk b6 0 none).add 6) (.int .u32 0) w17 fun w18 => stc ((Addr.mk b6 0 none).add 7) (.int .u32 0) w18 fun w19 => stc ((Addr.mk b6 0 none).add 8) (.int .u16 0) w19 fun w20 => stc ((Addr.mk b6 0 none).add 9) (.int .u16 0) w20 fun w21 => stc ((Addr.mk b6 0 none).add 10) (.slice none 0 0) w21 fun w22 => stc ((Addr.mk b6 0 none).add 11) (.slice none 0 0) w22 fun w23 => stc ((Addr.mk b6 0 none).add 12) (.slice none 0 0) w23 fun w24 => stc ((Addr.mk b6 0 none).add 13) (.slice none 0 0) w24 fun w25 => stc ((Addr.mk b6 0 none).add 14) (.slice none 0 0) w25 fun w26 => ldI .u8 ((Addr.mk b6 0 none).add 0) w26 fun n27 => ldI .u8 ((Addr.mk b6 0 none).add 1) w26 fun n28 => ldI .u32 ((Addr.mk b6 0 none).add 2) w26 fun n29 => ldI .u16 ((Addr.mk b6 0 none).add 3) w26 fun n30 => ldI .u16 ((Addr.mk b6 0 none).add 4) w26 fun n31 => ldI .u32 ((Addr.mk b6 0 none).add 5) w26 fun n32 => ldI .u32 ((Addr.mk b6 0 none).add 6) w26 fun n33 => ldI .u32 ((Addr.mk b6 0 none).add 7) w26 fun n34 => ldI .u16 ((Addr.mk b6 0 none).add 8) w26 fun n35 => ldI .u16 ((Addr.mk b6 0 none).add 9) w26 fun n36 => ldC ((Addr.mk b6 0 none).add 10) w26 fun l37a l37n l37c => ldC ((Addr.mk b6 0 none).add 11) w26 fun l38a l38n l38c => ldC ((Addr.mk b6 0 none).add 12) w26 fun l39a l39n l39c => ldC ((Addr.mk b6 0 none).add 13) w26 fun l40a l40n l40c => ldC ((Addr.mk b6 0 none).add 14) w26 fun l41a l41n l41c => K (.tuple #[(.agg #[(.int .u8 n27), (.int .u8 n28), (.int .u32 n29), (.int .u16 n30), (.int .u16 n31), (.int .u32 n32), (.int .u32 n33), (.int .u32 n34), (.int .u16 n35), (.int .u16 n36), (.slice l37a l37n l37c), (.slice l38a l38n l38c), (.slice l39a l39n l39c), (.slice l40a l40n l40c), (.slice l41a l41n l41c)]), (.int .i64 4)]) w26) (br (decide ((n3 : Int) < 0)) (stc ((Addr.mk b6 0 none).add 0) (.int .u8 0) w10 fun w42 => stc ((Addr.mk b6 0 none).add 1) (.int .u8 0) w42 fun w43 => stc ((Addr.mk b6 0 none).add 2) (.int .u32 0) w43 fun w44 => stc ((Addr.mk b6 0 none).add 3) (.int .u16 0) w44 fun w45 => stc ((Addr.mk b6 0 none).add 4) (.int .u16 0) w45 fun w46 => stc ((Addr.mk b6 0 none).add 5) (.int .u32 0) w46 fun w47 => stc ((Addr.mk b6 0 none).add 6) (.int .u32 0) w47 fun w48 => stc ((Addr.mk b6 0 none).add 7) (.int .u32 0) w48 fun w49 => stc ((Addr.mk b6 0 none).add 8) (.int .u16 0) w49 fun w50 => stc ((Addr.mk b6 0 none).add 9) (.int .u16 0) w50 fun w51 => stc ((Addr.mk b6 0 none).add 10) (.slice none 0 0) w51 fun w52 => stc ((Addr.mk b6 0 none).add 11) (.slice none 0 0) w52 fun w53 => stc ((Addr.mk b6 0 none).add 12) (.slice none 0 0) w53 fun w54 => stc ((Addr.mk b6 0 none).add 13) (.slice none 0 0) w54 fun w55 => stc ((Addr.mk b6 0 none).add 14) (.slice none 0 0) w55 fun w56 => ldI .u8 ((Addr.mk b6 0 none).add 0) w56 fun n57 => ldI .u8 ((Addr.mk b6 0 none).add 1) w56 fun n58 => ldI .u32 ((Addr.mk b6 0 none).add 2) w56 fun n59 => ldI .u16 ((Addr.mk b6 0 none).add 3) w56 fun n60 => ldI .u16 ((Addr.mk b6 0 none).add 4) w56 fun n61 => ldI .u32 ((Addr.mk b6 0 none).add 5) w56 fun n62 => ldI .u32 ((Addr.mk b6 0 none).add 6) w56 fun n63 => ldI .u32 ((Addr.mk b6 0 none).add 7) w56 fun n64 => ldI .u16 ((Addr.mk b6 0 none).add 8) w56 fun n65 => ldI .u16 ((Addr.mk b6 0 none).add 9) w56 fun n66 => ldC ((Addr.mk b6 0 none).add 10) w56 fun l67a l67n l67c => ldC ((Addr.mk b6 0 none).add 11) w56 fun l68a l68n l68c => ldC ((Addr.mk b6 0 none).add 12) w56 fun l69a l69n l69c => ldC ((Addr.mk b6 0 none).add 13) w56 fun l70a l70n l70c => ldC ((Addr.mk b6 0 none).add 14) w56 fun l71a l71n l71c => K (.tuple #[(.agg #[(.int .u8 n57), (.int .u8 n58), (.int .u32 n59), (.int .u16 n60), (.int .u16 n61), (.int .u32 n62), (.int .u32 n63), (.int .u32 n64), (.int .u16 n65), (.int .u16 n66), (.slice l67a l67n l67c), (.slice l68a l68n l68c), (.slice l69a l69n l69c), (.slice l70a l70n l70c), (.slice l71a l71n l71c)]), (.int .i64 1)]) w56) (br (decide ((n3 : Int) > 4096)) (stc ((Addr.mk b6 0 none).add 0) (.int .u8 0) w10 fun w72 => stc ((Addr.mk b6 0 none).add 1) (.int .u8 0) w72 fun w73 => stc ((Addr.mk b6 0 none).add 2) (.int .u32 0) w73 fun w74 => stc ((Addr.mk b6 0 none).add 3) (.int .u16 0) w74 fun w75 => stc ((Addr.mk b6 0 none).add 4) (.int .u16 0) w75 fun w76 => stc ((Addr.mk b6 0 none).add 5) (.int .u32 0) w76 fun w77 => stc ((Addr.mk b6 0 none).add 6) (.int .u32 0) w77 fun w78 => stc ((Addr.mk b6 0 none).add 7) (.int .u32 0) w78 fun w79 => stc ((Addr.mk b6 0 none).add 8) (.int .u16 0) w79 fun w80 => stc ((Addr.mk b6 0 none).add 9) (.int .u16 0) w80 fun w81 => stc ((Addr.mk b6 0 none).add 10) (.slice none 0 0) w81 fun w82 => stc ((Addr.mk b6 0 none).add 11) (.slice none 0 0) w82 fun w83 => stc ((Addr.mk b6 0 none).add 12) (.slice none 0 0) w83 fun w84 => stc ((Addr.mk b6 0 none).add 13) (.slice none 0 0) w84 fun w85 => stc ((Addr.mk b6 0 none).add 14) (.slice none 0 0) w85 fun w86 => ldI .u8 ((Addr.mk b6 0 none).add 0) w86 fun n87 => ldI .u8 ((Addr.mk b6 0 none).add 1) w86 fun n88 => ldI .u32 ((Addr.mk b6 0 none).add 2) w86 fun n89 => ldI .u16 ((Addr.mk b6 0 none).add 3) w86 fun n90 => ldI .u16 ((Addr.mk b6 0 none).add 4) w86 fun n91 => ldI .u32 ((Addr.mk b6 0 none).add 5) w86 fun n92 => ldI .u32 ((Addr.mk b6 0 none).add 6) w86 fun n93 => ldI .u32 ((Addr.mk b6 0 none).add 7) w86 fun n94 => ldI .u16 ((Addr.mk b6 0 none).add 8) w86 fun n95 => ldI .u16 ((Addr.mk b6 0 none).add 9) w86 fun n96 => ldC ((Addr.mk b6 0 none).add 10) w86 fun l97a l97n l97c => ldC ((Addr.mk b6 0 none).add 11) w86 fun l98a l98n l98c => ldC ((Addr.mk b6 0 none).add 12) w86 fun l99a l99n l99c => ldC ((Addr.mk b6 0 none).add 13) w86 fun l100a l100n l100c => ldC ((Addr.mk b6 0 none).add 14) w86 fun l101a l101n l101c => K (.tuple #[(.agg #[(.int .u8 n87), (.int .u8 n88), (.int .u32 n89), (.int .u16 n90), (.int .u16 n91), (.int .u32 n92), (.int .u32 n93), (.int .u32 n94), (.int .u16 n95), (.int .u16 n96), (.slice l97a l97n l97c), (.slice l98a l98n l98c), (.slice l99a l99n l99c), (.slice l100a l100n l100c), (.slice l101a l101n l101c)]), (.int .i64 1)]) w86) (F17_2 (fun y6_101 y7_101 w103 => ∀ _g104 : Tm, rdA y6_101 fun a105 => rdI .i64 y7_101 fun n106 => ldI .u8 (a105.add 0) w103 fun n107 => ldI .u8 (a105.add 1) w103 fun n108 => ldI .u32 (a105.add 2) w103 fun n109 => ldI .u16 (a105.add 3) w103 fun n110 => ldI .u16 (a105.add 4) w103 fun n111 => ldI .u32 (a105.add 5) w103 fun n112 => ldI .u32 (a105.add 6) w103 fun n113 => ldI .u32 (a105.add 7) w103 fun n114 => ldI .u16 (a105.add 8) w103 fun n115 => ldI .u16 (a105.add 9) w103 fun n116 => ldC (a105.add 10) w103 fun l117a l117n l117c => ldC (a105.add 11) w103 fun l118a l118n l118c => ldC (a105.add 12) w103 fun l119a l119n l119c => ldC (a105.add 13) w103 fun l120a l120n l120c => ldC (a105.add 14) w103 fun l121a l121n l121c => K (.tuple #[(.agg #[(.int .u8 n107), (.int .u8 n108), (.int .u32 n109), (.int .u16 n110), (.int .u16 n111), (.int .u32 n112), (.int .u32 n113), (.int .u32 n114), (.int .u16 n115), (.int .u16 n116), (.slice l117a l117n l117c), (.slice l118a l118n l118c), (.slice l119a l119n l119c), (.slice l120a l120n l120c), (.slice l121a l121n l121c)]), (.int .i64 n106)]) w103) (.int .u32 n2) (.int .i64 n3) (.pointer (some (Addr.mk b4 0 none))) (.pointer (some (Addr.mk b6 0 none))) w10))))
theorem F17_step (x0 : Value) (x1 : Value) (x2 : Value) (w : World) (K : Value → World → Prop) : (F17 x0 x1 x2 w K) = rsh [(0, (.one .ptr)), (1, (.one (.int .u32))), (2, (.one (.int .i64)))] (args0 #[x0, x1, x2]) (fun t => vc Tryd.prog (orcOf [([1, 1, 1, 1, 1], F17_1O), ([1, 1, 1], F17_2O)]) [] F17_code (retQ Tryd.prog Tryd.f17 K) t w) := by kernel_rfl
theorem F17_ok {x0 x1 x2 : Value} {w : World} {K : Value → World → Prop} (h : F17 x0 x1 x2 w K) : Calls Tryd.prog 17 #[x0, x1, x2] w fun e w' => ∃ v, e = .returned v ∧ K v w' := by
  rw [F17_step] at h
  exact calls_of (c := F17_code) mixed Tryd.func17 rfl (nlt rfl) (vc_sound mixed (orcCons (π := [1, 1, 1, 1, 1]) F17_1_ok (orcCons (π := [1, 1, 1]) F17_2_ok (orcNil F17_code))) F17_code [] rfl F17_code_ok _ _ _ (rsh_out h))

/-! ropewalk/ropewalkref01.Diff -/
noncomputable def F18_code : Code := Tryd.f18.body.getD .skip
theorem F18_code_ok : okC Tryd.prog Tryd.f18.ntmps F18_code = true := by kernel_rfl
def F18 (x0 : Value) (x1 : Value) (w : World) (K : Value → World → Prop) : Prop :=
  rdI .u32 x0 fun n1 => rdI .u32 x1 fun n2 => Calls Tryd.prog 52 #[(.int .i64 (IntKind.wrap .i64 (n1))), (.int .i64 (IntKind.wrap .i64 (n2))), (.int .i64 4294967296)] w fun e5 w4 => ∃ n3, e5 = .returned (.int .i64 n3) ∧ (K (.int .i64 n3) w4)
theorem F18_step (x0 : Value) (x1 : Value) (w : World) (K : Value → World → Prop) : (F18 x0 x1 w K) = rsh [(0, (.one (.int .u32))), (1, (.one (.int .u32)))] (args0 #[x0, x1]) (fun t => vc Tryd.prog (orcOf []) [] F18_code (retQ Tryd.prog Tryd.f18 K) t w) := by kernel_rfl
theorem F18_ok {x0 x1 : Value} {w : World} {K : Value → World → Prop} (h : F18 x0 x1 w K) : Calls Tryd.prog 18 #[x0, x1] w fun e w' => ∃ v, e = .returned v ∧ K v w' := by
  rw [F18_step] at h
  exact calls_of (c := F18_code) mixed Tryd.func18 rfl (nlt rfl) (vc_sound mixed (orcNil F18_code) F18_code [] rfl F18_code_ok _ _ _ (rsh_out h))

/-! ropewalk/ropewalklaw19.alive -/
noncomputable def F19_code : Code := Tryd.f19.body.getD .skip
theorem F19_code_ok : okC Tryd.prog Tryd.f19.ntmps F19_code = true := by kernel_rfl
def F19_1C (Kr : Value → World → Prop) : Post := fun o t w => match o with | .normal => False | .exit i => (False) | .ret => Kr (t 0) w
def F19_1 (Kr : Value → World → Prop) (x1 : Value) (w : World) : Prop :=
  rdP x1 fun p1 => Calls Tryd.prog 10 #[(.pointer p1), (.int .u32 3)] w fun e5 w4 => ∃ b2 n3, e5 = .returned (.tuple #[(.bool b2), (.int .i64 n3)]) ∧ (Calls Tryd.prog 10 #[(.pointer p1), (.int .u32 4)] w4 fun e9 w8 => ∃ b6 n7, e9 = .returned (.tuple #[(.bool b6), (.int .i64 n7)]) ∧ (alc (.cells #[(.int .u32 4)] 22) w8 fun b10 w11 => Calls Tryd.prog 12 #[(.pointer p1), (.slice (some (Addr.mk b10 0 none)) 1 1)] w11 fun e14 w13 => ∃ n12, e14 = .returned (.int .i64 n12) ∧ (Calls Tryd.prog 17 #[(.pointer p1), (.int .u32 9000), (.int .i64 8)] w13 fun e32 w31 => ∃ n15 n16 n17 n18 n19 n20 n21 n22 n23 n24 l25a l25n l25c l26a l26n l26c l27a l27n l27c l28a l28n l28c l29a l29n l29c n30, e32 = .returned (.tuple #[(.agg #[(.int .u8 n15), (.int .u8 n16), (.int .u32 n17), (.int .u16 n18), (.int .u16 n19), (.int .u32 n20), (.int .u32 n21), (.int .u32 n22), (.int .u16 n23), (.int .u16 n24), (.slice l25a l25n l25c), (.slice l26a l26n l26c), (.slice l27a l27n l27c), (.slice l28a l28n l28c), (.slice l29a l29n l29c)]), (.int .i64 n30)]) ∧ (alc (.cells #[(.int .u8 0), (.int .u8 0), (.int .u32 0), (.int .u16 0), (.int .u16 0), (.int .u32 0), (.int .u32 0), (.int .u32 0), (.int .u16 0), (.int .u16 0), (.slice none 0 0), (.slice none 0 0), (.slice none 0 0), (.slice none 0 0), (.slice none 0 0)] 54) w31 fun b33 w34 => stc ((Addr.mk b33 0 none).add 0) (.int .u8 n15) w34 fun w35 => stc ((Addr.mk b33 0 none).add 1) (.int .u8 n16) w35 fun w36 => stc ((Addr.mk b33 0 none).add 2) (.int .u32 n17) w36 fun w37 => stc ((Addr.mk b33 0 none).add 3) (.int .u16 n18) w37 fun w38 => stc ((Addr.mk b33 0 none).add 4) (.int .u16 n19) w38 fun w39 => stc ((Addr.mk b33 0 none).add 5) (.int .u32 n20) w39 fun w40 => stc ((Addr.mk b33 0 none).add 6) (.int .u32 n21) w40 fun w41 => stc ((Addr.mk b33 0 none).add 7) (.int .u32 n22) w41 fun w42 => stc ((Addr.mk b33 0 none).add 8) (.int .u16 n23) w42 fun w43 => stc ((Addr.mk b33 0 none).add 9) (.int .u16 n24) w43 fun w44 => stc ((Addr.mk b33 0 none).add 10) (.slice l25a l25n l25c) w44 fun w45 => stc ((Addr.mk b33 0 none).add 11) (.slice l26a l26n l26c) w45 fun w46 => stc ((Addr.mk b33 0 none).add 12) (.slice l27a l27n l27c) w46 fun w47 => stc ((Addr.mk b33 0 none).add 13) (.slice l28a l28n l28c) w47 fun w48 => stc ((Addr.mk b33 0 none).add 14) (.slice l29a l29n l29c) w48 fun w49 => br b2 (br b6 (br (n3 == 0) (br (n7 == 0) (br (n30 == 0) (br (n12 == 1) (ldI .u8 ((Addr.mk b33 0 none).add 0) w49 fun n50 => br (n50 == 16) (ldI .u32 ((Addr.mk b33 0 none).add 2) w49 fun n51 => br (n51 == 0) (ldC ((Addr.mk b33 0 none).add 10) w49 fun l52a l52n l52c => br ((l52n : Int) == 1) (ldC ((Addr.mk b33 0 none).add 11) w49 fun l53a l53n l53c => br ((l53n : Int) == 1) (ldC ((Addr.mk b33 0 none).add 11) w49 fun l54a l54n l54c => ixS 2 l54a l54n 0 fun a55 => ldI .u16 (a55.add 0) w49 fun n56 => ldI .u16 (a55.add 1) w49 fun n57 => ∃ b58 w59, Sem.run Tryd.prog (binF Tryd.prog .eql 60 (.tmp 84) (.tmp 85) (.agg #[(.int .u16 n56), (.int .u16 n57)]) (.agg #[(.int .u16 4), (.int .u16 4)])) w49 = .ok (.bool b58) w59 ∧ (Kr (.bool b58) w59)) (Kr (.bool false) w49)) (Kr (.bool false) w49)) (Kr (.bool false) w49)) (Kr (.bool false) w49)) (Kr (.bool false) w49)) (Kr (.bool false) w49)) (Kr (.bool false) w49)) (Kr (.bool false) w49)) (Kr (.bool false) w49)) (Kr (.bool false) w49)))))
def F19_1O (Q : Post) (t : Tm) (w : World) : Prop := F19_1 (fun y0 w => ∀ g, rsh [(0, (.one .bool))] (upds g [(0, y0)]) fun t => Q .ret t w) (t 1) w
theorem F19_1_step (Kr : Value → World → Prop) (t : Tm) (w : World) : (F19_1 Kr (t 1) w) = rsh [(1, (.one .ptr))] t (fun t => vc Tryd.prog (orcOf []) [1, 1, 1] (getAt F19_code [1, 1, 1]) (F19_1C Kr) t w) := by kernel_rfl
theorem F19_1_ok : ∀ Q t w, F19_1O Q t w → W Tryd.prog Tryd.f19.ntmps (getAt F19_code [1, 1, 1]) Q t w := by
  intro Q t w h
  unfold F19_1O at h
  rw [F19_1_step] at h
  refine (vc_sound mixed (orcNil F19_code) _ _ rfl (okC_at F19_code_ok [1, 1, 1]) _ _ _ (rsh_out h)).mono ?_
  intro o t w q
  cases o with
  | normal => exact q.elim
  | exit i => exact q.elim
  | ret => exact out_ok [0] q
def F19 (w : World) (K : Value → World → Prop) : Prop :=
  Calls Tryd.prog 28 #[(.int .u32 1), (.int .i64 200), (.bool true)] w fun e4 w3 => ∃ p1 n2, e4 = .returned (.tuple #[(.pointer p1), (.int .i64 n2)]) ∧ (br (n2 != 0) (K (.bool false) w3) (br (Option.isNone p1) (K (.bool false) w3) (F19_1 (fun y0_4 w6 => ∀ _g7 : Tm, rdB y0_4 fun b8 => K (.bool b8) w6) (.pointer p1) w3)))
theorem F19_step (w : World) (K : Value → World → Prop) : (F19  w K) = rsh [] (args0 #[]) (fun t => vc Tryd.prog (orcOf [([1, 1, 1], F19_1O)]) [] F19_code (retQ Tryd.prog Tryd.f19 K) t w) := by kernel_rfl
theorem F19_ok {w : World} {K : Value → World → Prop} (h : F19 w K) : Calls Tryd.prog 19 #[] w fun e w' => ∃ v, e = .returned v ∧ K v w' := by
  rw [F19_step] at h
  exact calls_of (c := F19_code) mixed Tryd.func19 rfl (nlt rfl) (vc_sound mixed (orcCons (π := [1, 1, 1]) F19_1_ok (orcNil F19_code)) F19_code [] rfl F19_code_ok _ _ _ (rsh_out h))

/-! (*ropewalk/inbox.Box).Has -/
noncomputable def F20_code : Code := Tryd.f20.body.getD .skip
theorem F20_code_ok : okC Tryd.prog Tryd.f20.ntmps F20_code = true := by kernel_rfl
def F20 (x0 : Value) (x1 : Value) (w : World) (K : Value → World → Prop) : Prop :=
  rdP x0 fun p1 => rdI .u32 x1 fun n2 => Calls Tryd.prog 34 #[(.pointer p1)] w fun e5 w4 => ∃ b3, e5 = .returned (.bool b3) ∧ (br b3 (nn p1 fun a6 => ldP (a6.add 0) w4 fun p7 => Calls Tryd.prog 53 #[(.pointer p7), (.int .u32 n2)] w4 fun e10 w9 => ∃ b8, e10 = .returned (.bool b8) ∧ (K (.bool b8) w9)) (K (.bool false) w4))
theorem F20_step (x0 : Value) (x1 : Value) (w : World) (K : Value → World → Prop) : (F20 x0 x1 w K) = rsh [(0, (.one .ptr)), (1, (.one (.int .u32)))] (args0 #[x0, x1]) (fun t => vc Tryd.prog (orcOf []) [] F20_code (retQ Tryd.prog Tryd.f20 K) t w) := by kernel_rfl
theorem F20_ok {x0 x1 : Value} {w : World} {K : Value → World → Prop} (h : F20 x0 x1 w K) : Calls Tryd.prog 20 #[x0, x1] w fun e w' => ∃ v, e = .returned v ∧ K v w' := by
  rw [F20_step] at h
  exact calls_of (c := F20_code) mixed Tryd.func20 rfl (nlt rfl) (vc_sound mixed (orcNil F20_code) F20_code [] rfl F20_code_ok _ _ _ (rsh_out h))

/-! (*ropewalk/inbox.Box).Heard -/
noncomputable def F21_code : Code := Tryd.f21.body.getD .skip
theorem F21_code_ok : okC Tryd.prog Tryd.f21.ntmps F21_code = true := by kernel_rfl
def F21_1C (Kn : World → Prop) : Post := fun o t w => match o with | .normal => Kn  w | .exit i => (False) | .ret => False
def F21_1 (Kn : World → Prop) (x0 : Value) (x1 : Value) (x40 : Value) (w : World) : Prop :=
  rdP x0 fun p1 => rdI .i64 x1 fun n2 => rdB x40 fun b3 => br b3 (nn p1 fun a4 => stc (a4.add 7) (.int .i64 n2) w fun w5 => Kn w5) (nn p1 fun a6 => ldI .i64 (a6.add 3) w fun n7 => nn p1 fun a8 => stc (a8.add 7) (.int .i64 (IntKind.wrap .i64 (n2 + n7))) w fun w9 => Kn w9)
def F21_1O (Q : Post) (t : Tm) (w : World) : Prop := F21_1 (fun w => ∀ g, rsh [] (upds g []) fun t => Q .normal t w) (t 0) (t 1) (t 40) w
theorem F21_1_step (Kn : World → Prop) (t : Tm) (w : World) : (F21_1 Kn (t 0) (t 1) (t 40) w) = rsh [(0, (.one .ptr)), (1, (.one (.int .i64))), (40, (.one .bool))] t (fun t => vc Tryd.prog (orcOf []) [1, 0, 1, 1, 1, 1] (getAt F21_code [1, 0, 1, 1, 1, 1]) (F21_1C Kn) t w) := by kernel_rfl
theorem F21_1_ok : ∀ Q t w, F21_1O Q t w → W Tryd.prog Tryd.f21.ntmps (getAt F21_code [1, 0, 1, 1, 1, 1]) Q t w := by
  intro Q t w h
  unfold F21_1O at h
  rw [F21_1_step] at h
  refine (vc_sound mixed (orcNil F21_code) _ _ rfl (okC_at F21_code_ok [1, 0, 1, 1, 1, 1]) _ _ _ (rsh_out h)).mono ?_
  intro o t w q
  cases o with
  | normal => exact out_ok [] q
  | exit i => exact q.elim
  | ret => exact q.elim
def F21_2C (Kr : Value → World → Prop) : Post := fun o t w => match o with | .normal => False | .exit i => (False) | .ret => Kr (t 4) w
def F21_2 (Kr : Value → World → Prop) (x0 : Value) (x1 : Value) (w : World) : Prop :=
  rdP x0 fun p1 => rdI .i64 x1 fun n2 => nn p1 fun a3 => ldI .i64 (a3.add 5) w fun n4 => nn p1 fun a5 => stc (a5.add 5) (.int .i64 (IntKind.wrap .i64 (n4 + 1))) w fun w6 => nn p1 fun a7 => ldC (a7.add 2) w6 fun l8a l8n l8c => br (decide (((l8n : Int) : Int) > 0)) (F21_1 (fun w10 => ∀ _g11 : Tm, Kr (.int .i64 0) w10) (.pointer p1) (.int .i64 n2) (.bool true) w6) (nn p1 fun a12 => ldI .i64 (a12.add 5) w6 fun n13 => br (decide ((n13 : Int) > 1)) (F21_1 (fun w15 => ∀ _g16 : Tm, Kr (.int .i64 0) w15) (.pointer p1) (.int .i64 n2) (.bool true) w6) (nn p1 fun a17 => ldB (a17.add 6) w6 fun b18 => F21_1 (fun w20 => ∀ _g21 : Tm, Kr (.int .i64 0) w20) (.pointer p1) (.int .i64 n2) (.bool (!b18)) w6))
def F21_2O (Q : Post) (t : Tm) (w : World) : Prop := F21_2 (fun y4 w => ∀ g, rsh [(4, (.one (.int .i64)))] (upds g [(4, y4)]) fun t => Q .ret t w) (t 0) (t 1) w
theorem F21_2_step (Kr : Value → World → Prop) (t : Tm) (w : World) : (F21_2 Kr (t 0) (t 1) w) = rsh [(0, (.one .ptr)), (1, (.one (.int .i64)))] t (fun t => vc Tryd.prog (orcOf [([1, 0, 1, 1, 1, 1], F21_1O)]) [1, 1, 1] (getAt F21_code [1, 1, 1]) (F21_2C Kr) t w) := by kernel_rfl
theorem F21_2_ok : ∀ Q t w, F21_2O Q t w → W Tryd.prog Tryd.f21.ntmps (getAt F21_code [1, 1, 1]) Q t w := by
  intro Q t w h
  unfold F21_2O at h
  rw [F21_2_step] at h
  refine (vc_sound mixed (orcCons (π := [1, 0, 1, 1, 1, 1]) F21_1_ok (orcNil F21_code)) _ _ rfl (okC_at F21_code_ok [1, 1, 1]) _ _ _ (rsh_out h)).mono ?_
  intro o t w q
  cases o with
  | normal => exact q.elim
  | exit i => exact q.elim
  | ret => exact out_ok [4] q
def F21 (x0 : Value) (x1 : Value) (w : World) (K : Value → World → Prop) : Prop :=
  rdP x0 fun p1 => rdI .i64 x1 fun n2 => Calls Tryd.prog 34 #[(.pointer p1)] w fun e5 w4 => ∃ b3, e5 = .returned (.bool b3) ∧ (br (!b3) (K (.int .i64 4) w4) (br (decide ((n2 : Int) < 0)) (K (.int .i64 1) w4) (br (decide ((n2 : Int) > 1099511627776)) (K (.int .i64 1) w4) (F21_2 (fun y4_5 w7 => ∀ _g8 : Tm, rdI .i64 y4_5 fun n9 => K (.int .i64 n9) w7) (.pointer p1) (.int .i64 n2) w4))))
theorem F21_step (x0 : Value) (x1 : Value) (w : World) (K : Value → World → Prop) : (F21 x0 x1 w K) = rsh [(0, (.one .ptr)), (1, (.one (.int .i64)))] (args0 #[x0, x1]) (fun t => vc Tryd.prog (orcOf [([1, 0, 1, 1, 1, 1], F21_1O), ([1, 1, 1], F21_2O)]) [] F21_code (retQ Tryd.prog Tryd.f21 K) t w) := by kernel_rfl
theorem F21_ok {x0 x1 : Value} {w : World} {K : Value → World → Prop} (h : F21 x0 x1 w K) : Calls Tryd.prog 21 #[x0, x1] w fun e w' => ∃ v, e = .returned v ∧ K v w' := by
  rw [F21_step] at h
  exact calls_of (c := F21_code) mixed Tryd.func21 rfl (nlt rfl) (vc_sound mixed (orcCons (π := [1, 0, 1, 1, 1, 1]) F21_1_ok (orcCons (π := [1, 1, 1]) F21_2_ok (orcNil F21_code))) F21_code [] rfl F21_code_ok _ _ _ (rsh_out h))

/-! (*ropewalk/inbox.Box).Due -/
noncomputable def F22_code : Code := Tryd.f22.body.getD .skip
theorem F22_code_ok : okC Tryd.prog Tryd.f22.ntmps F22_code = true := by kernel_rfl
def F22 (x0 : Value) (w : World) (K : Value → World → Prop) : Prop :=
  rdP x0 fun p1 => Calls Tryd.prog 34 #[(.pointer p1)] w fun e4 w3 => ∃ b2, e4 = .returned (.bool b2) ∧ (br (!b2) (K (.tuple #[(.int .i64 0), (.bool false)]) w3) (nn p1 fun a5 => ldI .i64 (a5.add 7) w3 fun n6 => br (decide ((n6 : Int) < 0)) (K (.tuple #[(.int .i64 0), (.bool false)]) w3) (nn p1 fun a7 => ldI .i64 (a7.add 7) w3 fun n8 => K (.tuple #[(.int .i64 n8), (.bool true)]) w3)))
theorem F22_step (x0 : Value) (w : World) (K : Value → World → Prop) : (F22 x0 w K) = rsh [(0, (.one .ptr))] (args0 #[x0]) (fun t => vc Tryd.prog (orcOf []) [] F22_code (retQ Tryd.prog Tryd.f22 K) t w) := by kernel_rfl
theorem F22_ok {x0 : Value} {w : World} {K : Value → World → Prop} (h : F22 x0 w K) : Calls Tryd.prog 22 #[x0] w fun e w' => ∃ v, e = .returned v ∧ K v w' := by
  rw [F22_step] at h
  exact calls_of (c := F22_code) mixed Tryd.func22 rfl (nlt rfl) (vc_sound mixed (orcNil F22_code) F22_code [] rfl F22_code_ok _ _ _ (rsh_out h))

/-! ropewalk/ropewalkref03.From -/
noncomputable def F23_code : Code := Tryd.f23.body.getD .skip
theorem F23_code_ok : okC Tryd.prog Tryd.f23.ntmps F23_code = true := by kernel_rfl
def F23_1C (Kn : Value → Value → Value → Value → World → Prop) : Post := fun o t w => match o with | .normal => Kn (t 0) (t 1) (t 6) (t 7) w | .exit i => (False) | .ret => False
def F23_1 (Kn : Value → Value → Value → Value → World → Prop) (x0 : Value) (x1 : Value) (x6 : Value) (x7 : Value) (w : World) : Prop :=
  rdI .u32 x0 fun n1 => rdC x1 fun l2a l2n l2c => rdC x6 fun l3a l3n l3c => rdI .i64 x7 fun n4 => drw w fun w5 => ixS 2 l2a l2n n4 fun a6 => ldI .u16 (a6.add 0) w5 fun n7 => ixS 2 l2a l2n n4 fun a8 => ldI .u16 (a8.add 1) w5 fun n9 => ixS 1 l3a l3n (IntKind.wrap .i64 (n7)) fun a10 => ldI .i64 a10 w5 fun n11 => ixS 1 l3a l3n (IntKind.wrap .i64 (n7)) fun a12 => stc a12 (.int .i64 (IntKind.wrap .i64 (n11 + 1))) w5 fun w13 => ixS 1 l3a l3n (IntKind.wrap .i64 ((IntKind.wrap .i64 (n9)) + 1)) fun a14 => ldI .i64 a14 w13 fun n15 => ixS 1 l3a l3n (IntKind.wrap .i64 ((IntKind.wrap .i64 (n9)) + 1)) fun a16 => stc a16 (.int .i64 (IntKind.wrap .i64 (n15 - 1))) w13 fun w17 => Kn (.int .u32 n1) (.slice l2a l2n l2c) (.slice l3a l3n l3c) (.int .i64 n4) w17
def F23_1O (Q : Post) (t : Tm) (w : World) : Prop := F23_1 (fun y0 y1 y6 y7 w => ∀ g, rsh [(0, (.one (.int .u32))), (1, (.one .slc)), (6, (.one .slc)), (7, (.one (.int .i64)))] (upds g [(0, y0), (1, y1), (6, y6), (7, y7)]) fun t => Q .normal t w) (t 0) (t 1) (t 6) (t 7) w
theorem F23_1_step (Kn : Value → Value → Value → Value → World → Prop) (t : Tm) (w : World) : (F23_1 Kn (t 0) (t 1) (t 6) (t 7) w) = rsh [(0, (.one (.int .u32))), (1, (.one .slc)), (6, (.one .slc)), (7, (.one (.int .i64)))] t (fun t => vc Tryd.prog (orcOf []) [1, 0, 0, 1, 0, 0, 1, 0, 1, 1, 1] (getAt F23_code [1, 0, 0, 1, 0, 0, 1, 0, 1, 1, 1]) (F23_1C Kn) t w) := by kernel_rfl
theorem F23_1_ok : ∀ Q t w, F23_1O Q t w → W Tryd.prog Tryd.f23.ntmps (getAt F23_code [1, 0, 0, 1, 0, 0, 1, 0, 1, 1, 1]) Q t w := by
  intro Q t w h
  unfold F23_1O at h
  rw [F23_1_step] at h
  refine (vc_sound mixed (orcNil F23_code) _ _ rfl (okC_at F23_code_ok [1, 0, 0, 1, 0, 0, 1, 0, 1, 1, 1]) _ _ _ (rsh_out h)).mono ?_
  intro o t w q
  cases o with
  | normal => exact out_ok [0, 1, 6, 7] q
  | exit i => exact q.elim
  | ret => exact q.elim
def F23_2C (K2 : Value → World → Prop) : Post := fun o t w => match o with | .normal => False | .exit i => (match Nat.beq i 2 with | true => K2 (t 10) w | false => False) | .ret => False
def F23_2B (R : Value → Value → Value → Value → World → Prop) (K2 : Value → World → Prop) (x6 : Value) (x10 : Value) (x11 : Value) (x12 : Value) (w : World) : Prop :=
  rdC x6 fun l1a l1n l1c => rdP x10 fun p2 => rdI .i64 x11 fun n3 => rdI .i64 x12 fun n4 => br (decide ((n4 : Int) ≤ 65535)) (ixS 1 l1a l1n n4 fun a5 => ldI .i64 a5 w fun n6 => br (decide (((IntKind.wrap .i64 (n3 + n6)) : Int) > 0)) (nn p2 fun a7 => ldC (a7.add 1) w fun l8a l8n l8c => alc (.cells #[(.int .i64 n4)] 3) w fun b9 w10 => ∃ l11a l11n l11c w12, Sem.run Tryd.prog (Builtin.append_ #[30, 30] 30 #[(.slice l8a l8n l8c), (.slice (some (Addr.mk b9 0 none)) 1 1)]) w10 = .ok (.slice l11a l11n l11c) w12 ∧ (nn p2 fun a13 => stc (a13.add 1) (.slice l11a l11n l11c) w12 fun w14 => R (.slice l1a l1n l1c) (.pointer p2) (.int .i64 (IntKind.wrap .i64 (n3 + n6))) (.int .i64 (IntKind.wrap .i64 (n4 + 1))) w14)) (R (.slice l1a l1n l1c) (.pointer p2) (.int .i64 (IntKind.wrap .i64 (n3 + n6))) (.int .i64 (IntKind.wrap .i64 (n4 + 1))) w)) (K2 (.pointer p2) w)
def F23_2 (K2 : Value → World → Prop) : Nat → Value → Value → Value → Value → World → Prop
  | 0 => fun _ _ _ _ _ => False
  | n + 1 => F23_2B (F23_2 K2 n) K2
def F23_2O (Q : Post) (t : Tm) (w : World) : Prop := ∃ n, F23_2 (fun y10 w => ∀ g, rsh [(10, (.one .ptr))] (upds g [(10, y10)]) fun t => Q (.exit 2) t w) n (t 6) (t 10) (t 11) (t 12) w
theorem F23_2_step (K2 : Value → World → Prop) (n : Nat) (t : Tm) (w : World) : (F23_2 K2 (n + 1) (t 6) (t 10) (t 11) (t 12) w) = rsh [(6, (.one .slc)), (10, (.one .ptr)), (11, (.one (.int .i64))), (12, (.one (.int .i64)))] t (fun t => vc Tryd.prog (orcOf []) [0, 0, 1, 0, 1, 1, 1, 1, 1, 1] (getAt F23_code [0, 0, 1, 0, 1, 1, 1, 1, 1, 1]) (fun o t w => match o with | .normal => F23_2 K2 n (t 6) (t 10) (t 11) (t 12) w | .exit i => F23_2C K2 (.exit i) t w | .ret => F23_2C K2 .ret t w) t w) := by kernel_rfl
theorem F23_2_ok : ∀ Q t w, F23_2O Q t w → W Tryd.prog Tryd.f23.ntmps (getAt F23_code [0, 1, 0, 1, 1, 1, 1, 1, 1]) Q t w := by
  intro Q t w ⟨n, h⟩
  refine (W_loop (P := Tryd.prog) (b := getAt F23_code [0, 0, 1, 0, 1, 1, 1, 1, 1, 1]) (Q := F23_2C (fun y10 w => ∀ g, rsh [(10, (.one .ptr))] (upds g [(10, y10)]) fun t => Q (.exit 2) t w)) (G := fun n t w => F23_2 (fun y10 w => ∀ g, rsh [(10, (.one .ptr))] (upds g [(10, y10)]) fun t => Q (.exit 2) t w) n (t 6) (t 10) (t 11) (t 12) w) (fun _ _ h => h) (fun n t w h => ?_) n t w h).mono ?_
  · rw [F23_2_step] at h
    exact vc_sound mixed (orcNil F23_code) _ _ rfl (okC_at F23_code_ok [0, 0, 1, 0, 1, 1, 1, 1, 1, 1]) _ _ _ (rsh_out h)
  · intro o t w q
    cases o with
    | normal => exact q.elim
    | exit i =>
      unfold F23_2C at q
      simp only at q
      split at q
      · rename_i hi
        rw [nbeq] at hi
        subst hi
        exact out_ok [10] q
      · exact q.elim
    | ret => exact q.elim
def F23_3C (K0 : Value → Value → World → Prop) (Kr : Value → Value → World → Prop) : Post := fun o t w => match o with | .normal => False | .exit i => (match Nat.beq i 0 with | true => K0 (t 0) (t 6) w | false => False) | .ret => Kr (t 4) (t 5) w
def F23_3B (R : Value → Value → Value → Value → World → Prop) (K0 : Value → Value → World → Prop) (Kr : Value → Value → World → Prop) (x0 : Value) (x1 : Value) (x6 : Value) (x7 : Value) (w : World) : Prop :=
  rdI .u32 x0 fun n1 => rdC x1 fun l2a l2n l2c => rdC x6 fun l3a l3n l3c => rdI .i64 x7 fun n4 => br (decide ((n4 : Int) < (l2n : Int))) (drw w fun w5 => ixS 2 l2a l2n n4 fun a6 => ldI .u16 (a6.add 0) w5 fun n7 => br (decide ((n7 : Int) < 2)) (Kr (.pointer none) (.int .i64 30) w5) (ixS 2 l2a l2n n4 fun a8 => ldI .u16 (a8.add 1) w5 fun n9 => ixS 2 l2a l2n n4 fun a10 => ldI .u16 (a10.add 0) w5 fun n11 => br (decide ((n9 : Int) < n11)) (Kr (.pointer none) (.int .i64 30) w5) (F23_1 (fun y0_11 y1_11 y6_11 y7_11 w13 => ∀ _g14 : Tm, rdI .u32 y0_11 fun n15 => rdC y1_11 fun l16a l16n l16c => rdC y6_11 fun l17a l17n l17c => rdI .i64 y7_11 fun n18 => R (.int .u32 n15) (.slice l16a l16n l16c) (.slice l17a l17n l17c) (.int .i64 (IntKind.wrap .i64 (n18 + 1))) w13) (.int .u32 n1) (.slice l2a l2n l2c) (.slice l3a l3n l3c) (.int .i64 n4) w5))) (K0 (.int .u32 n1) (.slice l3a l3n l3c) w)
def F23_3 (K0 : Value → Value → World → Prop) (Kr : Value → Value → World → Prop) : Nat → Value → Value → Value → Value → World → Prop
  | 0 => fun _ _ _ _ _ => False
  | n + 1 => F23_3B (F23_3 K0 Kr n) K0 Kr
def F23_3O (Q : Post) (t : Tm) (w : World) : Prop := ∃ n, F23_3 (fun y0 y6 w => ∀ g, rsh [(0, (.one (.int .u32))), (6, (.one .slc))] (upds g [(0, y0), (6, y6)]) fun t => Q (.exit 0) t w) (fun y4 y5 w => ∀ g, rsh [(4, (.one .ptr)), (5, (.one (.int .i64)))] (upds g [(4, y4), (5, y5)]) fun t => Q .ret t w) n (t 0) (t 1) (t 6) (t 7) w
theorem F23_3_step (K0 : Value → Value → World → Prop) (Kr : Value → Value → World → Prop) (n : Nat) (t : Tm) (w : World) : (F23_3 K0 Kr (n + 1) (t 0) (t 1) (t 6) (t 7) w) = rsh [(0, (.one (.int .u32))), (1, (.one .slc)), (6, (.one .slc)), (7, (.one (.int .i64)))] t (fun t => vc Tryd.prog (orcOf [([1, 0, 0, 1, 0, 0, 1, 0, 1, 1, 1], F23_1O)]) [0, 0, 1, 0, 1, 1, 1] (getAt F23_code [0, 0, 1, 0, 1, 1, 1]) (fun o t w => match o with | .normal => F23_3 K0 Kr n (t 0) (t 1) (t 6) (t 7) w | .exit i => F23_3C K0 Kr (.exit i) t w | .ret => F23_3C K0 Kr .ret t w) t w) := by kernel_rfl
theorem F23_3_ok : ∀ Q t w, F23_3O Q t w → W Tryd.prog Tryd.f23.ntmps (getAt F23_code [0, 1, 0, 1, 1, 1]) Q t w := by
  intro Q t w ⟨n, h⟩
  refine (W_loop (P := Tryd.prog) (b := getAt F23_code [0, 0, 1, 0, 1, 1, 1]) (Q := F23_3C (fun y0 y6 w => ∀ g, rsh [(0, (.one (.int .u32))), (6, (.one .slc))] (upds g [(0, y0), (6, y6)]) fun t => Q (.exit 0) t w) (fun y4 y5 w => ∀ g, rsh [(4, (.one .ptr)), (5, (.one (.int .i64)))] (upds g [(4, y4), (5, y5)]) fun t => Q .ret t w)) (G := fun n t w => F23_3 (fun y0 y6 w => ∀ g, rsh [(0, (.one (.int .u32))), (6, (.one .slc))] (upds g [(0, y0), (6, y6)]) fun t => Q (.exit 0) t w) (fun y4 y5 w => ∀ g, rsh [(4, (.one .ptr)), (5, (.one (.int .i64)))] (upds g [(4, y4), (5, y5)]) fun t => Q .ret t w) n (t 0) (t 1) (t 6) (t 7) w) (fun _ _ h => h) (fun n t w h => ?_) n t w h).mono ?_
  · rw [F23_3_step] at h
    exact vc_sound mixed (orcCons (π := [1, 0, 0, 1, 0, 0, 1, 0, 1, 1, 1]) F23_1_ok (orcNil F23_code)) _ _ rfl (okC_at F23_code_ok [0, 0, 1, 0, 1, 1, 1]) _ _ _ (rsh_out h)
  · intro o t w q
    cases o with
    | normal => exact q.elim
    | exit i =>
      unfold F23_3C at q
      simp only at q
      split at q
      · rename_i hi
        rw [nbeq] at hi
        subst hi
        exact out_ok [0, 6] q
      · exact q.elim
    | ret => exact out_ok [4, 5] q
def F23 (x0 : Value) (x1 : Value) (w : World) (K : Value → World → Prop) : Prop :=
  rdI .u32 x0 fun n1 => rdC x1 fun l2a l2n l2c => br (decide (((l2n : Int) : Int) > 4096)) (K (.tuple #[(.pointer none), (.int .i64 3)]) w) (∃ l3a l3n l3c w4, Sem.run Tryd.prog (Instr.makeSlice 30 (.int .i64 65537) (.int .i64 65537)) w = .ok (.slice l3a l3n l3c) w4 ∧ (∃ k23 : Nat, F23_3 (fun y0_4 y6_4 w6 => ∀ _g7 : Tm, rdI .u32 y0_4 fun n8 => rdC y6_4 fun l9a l9n l9c => Calls Tryd.prog 54 #[(.int .u32 n8)] w6 fun e12 w11 => ∃ p10, e12 = .returned (.pointer p10) ∧ (∃ k17 : Nat, F23_2 (fun y10_12 w14 => ∀ _g15 : Tm, rdP y10_12 fun p16 => K (.tuple #[(.pointer p16), (.int .i64 0)]) w14) k17 (.slice l9a l9n l9c) (.pointer p10) (.int .i64 0) (.int .i64 2) w11)) (fun y4_17 y5_17 w19 => ∀ _g20 : Tm, rdP y4_17 fun p21 => rdI .i64 y5_17 fun n22 => K (.tuple #[(.pointer p21), (.int .i64 n22)]) w19) k23 (.int .u32 n1) (.slice l2a l2n l2c) (.slice l3a l3n l3c) (.int .i64 0) w4))
theorem F23_step (x0 : Value) (x1 : Value) (w : World) (K : Value → World → Prop) : (F23 x0 x1 w K) = rsh [(0, (.one (.int .u32))), (1, (.one .slc))] (args0 #[x0, x1]) (fun t => vc Tryd.prog (orcOf [([1, 0, 0, 1, 0, 0, 1, 0, 1, 1, 1], F23_1O), ([0, 1, 0, 1, 1, 1, 1, 1, 1], F23_2O), ([0, 1, 0, 1, 1, 1], F23_3O)]) [] F23_code (retQ Tryd.prog Tryd.f23 K) t w) := by kernel_rfl
theorem F23_ok {x0 x1 : Value} {w : World} {K : Value → World → Prop} (h : F23 x0 x1 w K) : Calls Tryd.prog 23 #[x0, x1] w fun e w' => ∃ v, e = .returned v ∧ K v w' := by
  rw [F23_step] at h
  exact calls_of (c := F23_code) mixed Tryd.func23 rfl (nlt rfl) (vc_sound mixed (orcCons (π := [1, 0, 0, 1, 0, 0, 1, 0, 1, 1, 1]) F23_1_ok (orcCons (π := [0, 1, 0, 1, 1, 1, 1, 1, 1]) F23_2_ok (orcCons (π := [0, 1, 0, 1, 1, 1]) F23_3_ok (orcNil F23_code)))) F23_code [] rfl F23_code_ok _ _ _ (rsh_out h))

/-! (*ropewalk/inbox.Box).Cum -/
noncomputable def F24_code : Code := Tryd.f24.body.getD .skip
theorem F24_code_ok : okC Tryd.prog Tryd.f24.ntmps F24_code = true := by kernel_rfl
def F24 (x0 : Value) (w : World) (K : Value → World → Prop) : Prop :=
  rdP x0 fun p1 => Calls Tryd.prog 34 #[(.pointer p1)] w fun e4 w3 => ∃ b2, e4 = .returned (.bool b2) ∧ (br (!b2) (K (.int .u32 0) w3) (nn p1 fun a5 => ldP (a5.add 0) w3 fun p6 => Calls Tryd.prog 35 #[(.pointer p6)] w3 fun e9 w8 => ∃ n7, e9 = .returned (.int .u32 n7) ∧ (K (.int .u32 n7) w8)))
theorem F24_step (x0 : Value) (w : World) (K : Value → World → Prop) : (F24 x0 w K) = rsh [(0, (.one .ptr))] (args0 #[x0]) (fun t => vc Tryd.prog (orcOf []) [] F24_code (retQ Tryd.prog Tryd.f24 K) t w) := by kernel_rfl
theorem F24_ok {x0 : Value} {w : World} {K : Value → World → Prop} (h : F24 x0 w K) : Calls Tryd.prog 24 #[x0] w fun e w' => ∃ v, e = .returned v ∧ K v w' := by
  rw [F24_step] at h
  exact calls_of (c := F24_code) mixed Tryd.func24 rfl (nlt rfl) (vc_sound mixed (orcNil F24_code) F24_code [] rfl F24_code_ok _ _ _ (rsh_out h))

/-! ropewalk/ropewalkref03.Numbers -/
noncomputable def F25_code : Code := Tryd.f25.body.getD .skip
theorem F25_code_ok : okC Tryd.prog Tryd.f25.ntmps F25_code = true := by kernel_rfl
def F25_1C (K0 : World → Prop) (Kr : Value → World → Prop) : Post := fun o t w => match o with | .normal => False | .exit i => (match Nat.beq i 0 with | true => K0  w | false => False) | .ret => Kr (t 4) w
def F25_1B (R : Value → Value → Value → World → Prop) (K0 : World → Prop) (Kr : Value → World → Prop) (x0 : Value) (x1 : Value) (x5 : Value) (w : World) : Prop :=
  rdC x0 fun l1a l1n l1c => rdC x1 fun l2a l2n l2c => rdI .i64 x5 fun n3 => br (decide ((n3 : Int) < (l1n : Int))) (drw w fun w4 => ixS 1 l1a l1n n3 fun a5 => ldI .u32 a5 w4 fun n6 => ixS 1 l2a l2n n3 fun a7 => ldI .u32 a7 w4 fun n8 => br (n6 != n8) (Kr (.bool false) w4) (R (.slice l1a l1n l1c) (.slice l2a l2n l2c) (.int .i64 (IntKind.wrap .i64 (n3 + 1))) w4)) (K0 w)
def F25_1 (K0 : World → Prop) (Kr : Value → World → Prop) : Nat → Value → Value → Value → World → Prop
  | 0 => fun _ _ _ _ => False
  | n + 1 => F25_1B (F25_1 K0 Kr n) K0 Kr
def F25_1O (Q : Post) (t : Tm) (w : World) : Prop := ∃ n, F25_1 (fun w => ∀ g, rsh [] (upds g []) fun t => Q (.exit 0) t w) (fun y4 w => ∀ g, rsh [(4, (.one .bool))] (upds g [(4, y4)]) fun t => Q .ret t w) n (t 0) (t 1) (t 5) w
theorem F25_1_step (K0 : World → Prop) (Kr : Value → World → Prop) (n : Nat) (t : Tm) (w : World) : (F25_1 K0 Kr (n + 1) (t 0) (t 1) (t 5) w) = rsh [(0, (.one .slc)), (1, (.one .slc)), (5, (.one (.int .i64)))] t (fun t => vc Tryd.prog (orcOf []) [0, 0, 1, 0, 1, 1] (getAt F25_code [0, 0, 1, 0, 1, 1]) (fun o t w => match o with | .normal => F25_1 K0 Kr n (t 0) (t 1) (t 5) w | .exit i => F25_1C K0 Kr (.exit i) t w | .ret => F25_1C K0 Kr .ret t w) t w) := by kernel_rfl
theorem F25_1_ok : ∀ Q t w, F25_1O Q t w → W Tryd.prog Tryd.f25.ntmps (getAt F25_code [0, 1, 0, 1, 1]) Q t w := by
  intro Q t w ⟨n, h⟩
  refine (W_loop (P := Tryd.prog) (b := getAt F25_code [0, 0, 1, 0, 1, 1]) (Q := F25_1C (fun w => ∀ g, rsh [] (upds g []) fun t => Q (.exit 0) t w) (fun y4 w => ∀ g, rsh [(4, (.one .bool))] (upds g [(4, y4)]) fun t => Q .ret t w)) (G := fun n t w => F25_1 (fun w => ∀ g, rsh [] (upds g []) fun t => Q (.exit 0) t w) (fun y4 w => ∀ g, rsh [(4, (.one .bool))] (upds g [(4, y4)]) fun t => Q .ret t w) n (t 0) (t 1) (t 5) w) (fun _ _ h => h) (fun n t w h => ?_) n t w h).mono ?_
  · rw [F25_1_step] at h
    exact vc_sound mixed (orcNil F25_code) _ _ rfl (okC_at F25_code_ok [0, 0, 1, 0, 1, 1]) _ _ _ (rsh_out h)
  · intro o t w q
    cases o with
    | normal => exact q.elim
    | exit i =>
      unfold F25_1C at q
      simp only at q
      split at q
      · rename_i hi
        rw [nbeq] at hi
        subst hi
        exact out_ok [] q
      · exact q.elim
    | ret => exact out_ok [4] q
def F25 (x0 : Value) (x1 : Value) (w : World) (K : Value → World → Prop) : Prop :=
  rdC x0 fun l1a l1n l1c => rdC x1 fun l2a l2n l2c => br ((l1n : Int) != (l2n : Int)) (K (.bool false) w) (∃ k10 : Nat, F25_1 (fun w4 => ∀ _g5 : Tm, K (.bool true) w4) (fun y4_5 w7 => ∀ _g8 : Tm, rdB y4_5 fun b9 => K (.bool b9) w7) k10 (.slice l1a l1n l1c) (.slice l2a l2n l2c) (.int .i64 0) w)
theorem F25_step (x0 : Value) (x1 : Value) (w : World) (K : Value → World → Prop) : (F25 x0 x1 w K) = rsh [(0, (.one .slc)), (1, (.one .slc))] (args0 #[x0, x1]) (fun t => vc Tryd.prog (orcOf [([0, 1, 0, 1, 1], F25_1O)]) [] F25_code (retQ Tryd.prog Tryd.f25 K) t w) := by kernel_rfl
theorem F25_ok {x0 x1 : Value} {w : World} {K : Value → World → Prop} (h : F25 x0 x1 w K) : Calls Tryd.prog 25 #[x0, x1] w fun e w' => ∃ v, e = .returned v ∧ K v w' := by
  rw [F25_step] at h
  exact calls_of (c := F25_code) mixed Tryd.func25 rfl (nlt rfl) (vc_sound mixed (orcCons (π := [0, 1, 0, 1, 1]) F25_1_ok (orcNil F25_code)) F25_code [] rfl F25_code_ok _ _ _ (rsh_out h))

/-! (*ropewalk/ropewalkref03.Set).All -/
noncomputable def F26_code : Code := Tryd.f26.body.getD .skip
theorem F26_code_ok : okC Tryd.prog Tryd.f26.ntmps F26_code = true := by kernel_rfl
def F26_1C (K0 : Value → World → Prop) : Post := fun o t w => match o with | .normal => False | .exit i => (match Nat.beq i 0 with | true => K0 (t 3) w | false => False) | .ret => False
def F26_1B (R : Value → Value → Value → World → Prop) (K0 : Value → World → Prop) (x0 : Value) (x3 : Value) (x4 : Value) (w : World) : Prop :=
  rdP x0 fun p1 => rdC x3 fun l2a l2n l2c => rdI .i64 x4 fun n3 => nn p1 fun a4 => ldC (a4.add 1) w fun l5a l5n l5c => br (decide ((n3 : Int) < (l5n : Int))) (drw w fun w6 => nn p1 fun a7 => ldI .u32 (a7.add 0) w6 fun n8 => nn p1 fun a9 => ldC (a9.add 1) w6 fun l10a l10n l10c => ixS 1 l10a l10n n3 fun a11 => ldI .i64 a11 w6 fun n12 => Calls Tryd.prog 9 #[(.int .u32 n8), (.int .u32 (IntKind.wrap .u32 (n12)))] w6 fun e15 w14 => ∃ n13, e15 = .returned (.int .u32 n13) ∧ (alc (.cells #[(.int .u32 n13)] 22) w14 fun b16 w17 => ∃ l18a l18n l18c w19, Sem.run Tryd.prog (Builtin.append_ #[34, 34] 34 #[(.slice l2a l2n l2c), (.slice (some (Addr.mk b16 0 none)) 1 1)]) w17 = .ok (.slice l18a l18n l18c) w19 ∧ (R (.pointer p1) (.slice l18a l18n l18c) (.int .i64 (IntKind.wrap .i64 (n3 + 1))) w19))) (K0 (.slice l2a l2n l2c) w)
def F26_1 (K0 : Value → World → Prop) : Nat → Value → Value → Value → World → Prop
  | 0 => fun _ _ _ _ => False
  | n + 1 => F26_1B (F26_1 K0 n) K0
def F26_1O (Q : Post) (t : Tm) (w : World) : Prop := ∃ n, F26_1 (fun y3 w => ∀ g, rsh [(3, (.one .slc))] (upds g [(3, y3)]) fun t => Q (.exit 0) t w) n (t 0) (t 3) (t 4) w
theorem F26_1_step (K0 : Value → World → Prop) (n : Nat) (t : Tm) (w : World) : (F26_1 K0 (n + 1) (t 0) (t 3) (t 4) w) = rsh [(0, (.one .ptr)), (3, (.one .slc)), (4, (.one (.int .i64)))] t (fun t => vc Tryd.prog (orcOf []) [0, 0, 1, 0, 1, 1] (getAt F26_code [0, 0, 1, 0, 1, 1]) (fun o t w => match o with | .normal => F26_1 K0 n (t 0) (t 3) (t 4) w | .exit i => F26_1C K0 (.exit i) t w | .ret => F26_1C K0 .ret t w) t w) := by kernel_rfl
theorem F26_1_ok : ∀ Q t w, F26_1O Q t w → W Tryd.prog Tryd.f26.ntmps (getAt F26_code [0, 1, 0, 1, 1]) Q t w := by
  intro Q t w ⟨n, h⟩
  refine (W_loop (P := Tryd.prog) (b := getAt F26_code [0, 0, 1, 0, 1, 1]) (Q := F26_1C (fun y3 w => ∀ g, rsh [(3, (.one .slc))] (upds g [(3, y3)]) fun t => Q (.exit 0) t w)) (G := fun n t w => F26_1 (fun y3 w => ∀ g, rsh [(3, (.one .slc))] (upds g [(3, y3)]) fun t => Q (.exit 0) t w) n (t 0) (t 3) (t 4) w) (fun _ _ h => h) (fun n t w h => ?_) n t w h).mono ?_
  · rw [F26_1_step] at h
    exact vc_sound mixed (orcNil F26_code) _ _ rfl (okC_at F26_code_ok [0, 0, 1, 0, 1, 1]) _ _ _ (rsh_out h)
  · intro o t w q
    cases o with
    | normal => exact q.elim
    | exit i =>
      unfold F26_1C at q
      simp only at q
      split at q
      · rename_i hi
        rw [nbeq] at hi
        subst hi
        exact out_ok [3] q
      · exact q.elim
    | ret => exact q.elim
def F26 (x0 : Value) (w : World) (K : Value → World → Prop) : Prop :=
  rdP x0 fun p1 => ∃ k6 : Nat, F26_1 (fun y3_1 w3 => ∀ _g4 : Tm, rdC y3_1 fun l5a l5n l5c => K (.slice l5a l5n l5c) w3) k6 (.pointer p1) (.slice none 0 0) (.int .i64 0) w
theorem F26_step (x0 : Value) (w : World) (K : Value → World → Prop) : (F26 x0 w K) = rsh [(0, (.one .ptr))] (args0 #[x0]) (fun t => vc Tryd.prog (orcOf [([0, 1, 0, 1, 1], F26_1O)]) [] F26_code (retQ Tryd.prog Tryd.f26 K) t w) := by kernel_rfl
theorem F26_ok {x0 : Value} {w : World} {K : Value → World → Prop} (h : F26 x0 w K) : Calls Tryd.prog 26 #[x0] w fun e w' => ∃ v, e = .returned v ∧ K v w' := by
  rw [F26_step] at h
  exact calls_of (c := F26_code) mixed Tryd.func26 rfl (nlt rfl) (vc_sound mixed (orcCons (π := [0, 1, 0, 1, 1]) F26_1_ok (orcNil F26_code)) F26_code [] rfl F26_code_ok _ _ _ (rsh_out h))

/-! (*ropewalk/inbox.Box).Above -/
noncomputable def F27_code : Code := Tryd.f27.body.getD .skip
theorem F27_code_ok : okC Tryd.prog Tryd.f27.ntmps F27_code = true := by kernel_rfl
def F27 (x0 : Value) (w : World) (K : Value → World → Prop) : Prop :=
  rdP x0 fun p1 => Calls Tryd.prog 34 #[(.pointer p1)] w fun e4 w3 => ∃ b2, e4 = .returned (.bool b2) ∧ (br (!b2) (K (.slice none 0 0) w3) (nn p1 fun a5 => ldP (a5.add 0) w3 fun p6 => Calls Tryd.prog 55 #[(.pointer p6)] w3 fun e9 w8 => ∃ l7a l7n l7c, e9 = .returned (.slice l7a l7n l7c) ∧ (K (.slice l7a l7n l7c) w8)))
theorem F27_step (x0 : Value) (w : World) (K : Value → World → Prop) : (F27 x0 w K) = rsh [(0, (.one .ptr))] (args0 #[x0]) (fun t => vc Tryd.prog (orcOf []) [] F27_code (retQ Tryd.prog Tryd.f27 K) t w) := by kernel_rfl
theorem F27_ok {x0 : Value} {w : World} {K : Value → World → Prop} (h : F27 x0 w K) : Calls Tryd.prog 27 #[x0] w fun e w' => ∃ v, e = .returned v ∧ K v w' := by
  rw [F27_step] at h
  exact calls_of (c := F27_code) mixed Tryd.func27 rfl (nlt rfl) (vc_sound mixed (orcNil F27_code) F27_code [] rfl F27_code_ok _ _ _ (rsh_out h))

/-! ropewalk/inbox.New -/
noncomputable def F28_code : Code := Tryd.f28.body.getD .skip
theorem F28_code_ok : okC Tryd.prog Tryd.f28.ntmps F28_code = true := by kernel_rfl
def F28_1C (Kr : Value → Value → World → Prop) : Post := fun o t w => match o with | .normal => False | .exit i => (False) | .ret => Kr (t 6) (t 7) w
def F28_1 (Kr : Value → Value → World → Prop) (x0 : Value) (x1 : Value) (x2 : Value) (w : World) : Prop :=
  rdI .u32 x0 fun n1 => rdI .i64 x1 fun n2 => rdB x2 fun b3 => Calls Tryd.prog 56 #[(.int .u32 (IntKind.wrap .u32 (n1 - 1)))] w fun e6 w5 => ∃ p4, e6 = .returned (.pointer p4) ∧ (alc (.map #[] 0) w5 fun b7 w8 => alc (.cells #[(.pointer p4), (.map (some b7)), (.slice none 0 0), (.int .i64 n2), (.bool b3), (.int .i64 0), (.bool false), (.int .i64 (-1))] 80) w8 fun b9 w10 => Kr (.pointer (some (Addr.mk b9 0 none))) (.int .i64 0) w10)
def F28_1O (Q : Post) (t : Tm) (w : World) : Prop := F28_1 (fun y6 y7 w => ∀ g, rsh [(6, (.one .ptr)), (7, (.one (.int .i64)))] (upds g [(6, y6), (7, y7)]) fun t => Q .ret t w) (t 0) (t 1) (t 2) w
theorem F28_1_step (Kr : Value → Value → World → Prop) (t : Tm) (w : World) : (F28_1 Kr (t 0) (t 1) (t 2) w) = rsh [(0, (.one (.int .u32))), (1, (.one (.int .i64))), (2, (.one .bool))] t (fun t => vc Tryd.prog (orcOf []) [1, 1] (getAt F28_code [1, 1]) (F28_1C Kr) t w) := by kernel_rfl
theorem F28_1_ok : ∀ Q t w, F28_1O Q t w → W Tryd.prog Tryd.f28.ntmps (getAt F28_code [1, 1]) Q t w := by
  intro Q t w h
  unfold F28_1O at h
  rw [F28_1_step] at h
  refine (vc_sound mixed (orcNil F28_code) _ _ rfl (okC_at F28_code_ok [1, 1]) _ _ _ (rsh_out h)).mono ?_
  intro o t w q
  cases o with
  | normal => exact q.elim
  | exit i => exact q.elim
  | ret => exact out_ok [6, 7] q
def F28 (x0 : Value) (x1 : Value) (x2 : Value) (w : World) (K : Value → World → Prop) : Prop :=
  rdI .u32 x0 fun n1 => rdI .i64 x1 fun n2 => rdB x2 fun b3 => br (decide ((n2 : Int) < 0)) (K (.tuple #[(.pointer none), (.int .i64 190)]) w) (br (decide ((n2 : Int) > 500)) (K (.tuple #[(.pointer none), (.int .i64 190)]) w) (F28_1 (fun y6_3 y7_3 w5 => ∀ _g6 : Tm, rdP y6_3 fun p7 => rdI .i64 y7_3 fun n8 => K (.tuple #[(.pointer p7), (.int .i64 n8)]) w5) (.int .u32 n1) (.int .i64 n2) (.bool b3) w))
theorem F28_step (x0 : Value) (x1 : Value) (x2 : Value) (w : World) (K : Value → World → Prop) : (F28 x0 x1 x2 w K) = rsh [(0, (.one (.int .u32))), (1, (.one (.int .i64))), (2, (.one .bool))] (args0 #[x0, x1, x2]) (fun t => vc Tryd.prog (orcOf [([1, 1], F28_1O)]) [] F28_code (retQ Tryd.prog Tryd.f28 K) t w) := by kernel_rfl
theorem F28_ok {x0 x1 x2 : Value} {w : World} {K : Value → World → Prop} (h : F28 x0 x1 x2 w K) : Calls Tryd.prog 28 #[x0, x1, x2] w fun e w' => ∃ v, e = .returned v ∧ K v w' := by
  rw [F28_step] at h
  exact calls_of (c := F28_code) mixed Tryd.func28 rfl (nlt rfl) (vc_sound mixed (orcCons (π := [1, 1]) F28_1_ok (orcNil F28_code)) F28_code [] rfl F28_code_ok _ _ _ (rsh_out h))

/-! ropewalk/ropewalkref19.New -/
noncomputable def F29_code : Code := Tryd.f29.body.getD .skip
theorem F29_code_ok : okC Tryd.prog Tryd.f29.ntmps F29_code = true := by kernel_rfl
def F29_1C (Kr : Value → Value → World → Prop) : Post := fun o t w => match o with | .normal => False | .exit i => (False) | .ret => Kr (t 6) (t 7) w
def F29_1 (Kr : Value → Value → World → Prop) (x0 : Value) (x1 : Value) (x2 : Value) (w : World) : Prop :=
  rdI .u32 x0 fun n1 => rdI .i64 x1 fun n2 => rdB x2 fun b3 => Calls Tryd.prog 54 #[(.int .u32 (IntKind.wrap .u32 (n1 - 1)))] w fun e6 w5 => ∃ p4, e6 = .returned (.pointer p4) ∧ (alc (.cells #[(.pointer p4), (.bool b3), (.int .i64 n2), (.slice none 0 0), (.slice none 0 0), (.int .i64 0), (.bool false), (.bool false), (.int .i64 0)] 36) w5 fun b7 w8 => Kr (.pointer (some (Addr.mk b7 0 none))) (.int .i64 0) w8)
def F29_1O (Q : Post) (t : Tm) (w : World) : Prop := F29_1 (fun y6 y7 w => ∀ g, rsh [(6, (.one .ptr)), (7, (.one (.int .i64)))] (upds g [(6, y6), (7, y7)]) fun t => Q .ret t w) (t 0) (t 1) (t 2) w
theorem F29_1_step (Kr : Value → Value → World → Prop) (t : Tm) (w : World) : (F29_1 Kr (t 0) (t 1) (t 2) w) = rsh [(0, (.one (.int .u32))), (1, (.one (.int .i64))), (2, (.one .bool))] t (fun t => vc Tryd.prog (orcOf []) [1, 1] (getAt F29_code [1, 1]) (F29_1C Kr) t w) := by kernel_rfl
theorem F29_1_ok : ∀ Q t w, F29_1O Q t w → W Tryd.prog Tryd.f29.ntmps (getAt F29_code [1, 1]) Q t w := by
  intro Q t w h
  unfold F29_1O at h
  rw [F29_1_step] at h
  refine (vc_sound mixed (orcNil F29_code) _ _ rfl (okC_at F29_code_ok [1, 1]) _ _ _ (rsh_out h)).mono ?_
  intro o t w q
  cases o with
  | normal => exact q.elim
  | exit i => exact q.elim
  | ret => exact out_ok [6, 7] q
def F29 (x0 : Value) (x1 : Value) (x2 : Value) (w : World) (K : Value → World → Prop) : Prop :=
  rdI .u32 x0 fun n1 => rdI .i64 x1 fun n2 => rdB x2 fun b3 => br (decide ((n2 : Int) < 0)) (K (.tuple #[(.pointer none), (.int .i64 190)]) w) (br (decide ((n2 : Int) > 500)) (K (.tuple #[(.pointer none), (.int .i64 190)]) w) (F29_1 (fun y6_3 y7_3 w5 => ∀ _g6 : Tm, rdP y6_3 fun p7 => rdI .i64 y7_3 fun n8 => K (.tuple #[(.pointer p7), (.int .i64 n8)]) w5) (.int .u32 n1) (.int .i64 n2) (.bool b3) w))
theorem F29_step (x0 : Value) (x1 : Value) (x2 : Value) (w : World) (K : Value → World → Prop) : (F29 x0 x1 x2 w K) = rsh [(0, (.one (.int .u32))), (1, (.one (.int .i64))), (2, (.one .bool))] (args0 #[x0, x1, x2]) (fun t => vc Tryd.prog (orcOf [([1, 1], F29_1O)]) [] F29_code (retQ Tryd.prog Tryd.f29 K) t w) := by kernel_rfl
theorem F29_ok {x0 x1 x2 : Value} {w : World} {K : Value → World → Prop} (h : F29 x0 x1 x2 w K) : Calls Tryd.prog 29 #[x0, x1, x2] w fun e w' => ∃ v, e = .returned v ∧ K v w' := by
  rw [F29_step] at h
  exact calls_of (c := F29_code) mixed Tryd.func29 rfl (nlt rfl) (vc_sound mixed (orcCons (π := [1, 1]) F29_1_ok (orcNil F29_code)) F29_code [] rfl F29_code_ok _ _ _ (rsh_out h))

/-! ropewalk/ropewalklaw19.same -/
noncomputable def F30_code : Code := Tryd.f30.body.getD .skip
theorem F30_code_ok : okC Tryd.prog Tryd.f30.ntmps F30_code = true := by kernel_rfl
def F30_1C (Kr : Value → World → Prop) : Post := fun o t w => match o with | .normal => False | .exit i => (False) | .ret => Kr (t 4) w
def F30_1 (Kr : Value → World → Prop) (x0 : Value) (x1 : Value) (x5 : Value) (x6 : Value) (x7 : Value) (w : World) : Prop :=
  rdP x0 fun p1 => rdP x1 fun p2 => rdI .i64 x5 fun n3 => rdB x6 fun b4 => rdI .i64 x7 fun n5 => drw w fun w6 => ∃ w7 : World, Pres w7 w6 ∧ (nn p2 fun a8 => ldB (a8.add 7) w6 fun b9 => br (b4 == b9) (br (n3 == n5) (nn p2 fun a10 => ldP (a10.add 0) w7 fun p11 => nn p11 fun a12 => ldI .u32 (a12.add 0) w7 fun n13 => Calls Tryd.prog 24 #[(.pointer p1)] w6 fun e16 w15 => ∃ n14, e16 = .returned (.int .u32 n14) ∧ (Pres w7 w15 ∧ (br (n14 == n13) (nn p2 fun a17 => ldP (a17.add 0) w7 fun p18 => Calls Tryd.prog 27 #[(.pointer p1)] w15 fun e21 w20 => ∃ l19a l19n l19c, e21 = .returned (.slice l19a l19n l19c) ∧ (Pres w7 w20 ∧ (Calls Tryd.prog 26 #[(.pointer p18)] w20 fun e24 w23 => ∃ l22a l22n l22c, e24 = .returned (.slice l22a l22n l22c) ∧ (Pres w7 w23 ∧ (Calls Tryd.prog 25 #[(.slice l19a l19n l19c), (.slice l22a l22n l22c)] w23 fun e27 w26 => ∃ b25, e27 = .returned (.bool b25) ∧ (Pres w7 w26 ∧ (br b25 (Calls Tryd.prog 32 #[(.pointer p1)] w26 fun e30 w29 => ∃ l28a l28n l28c, e30 = .returned (.slice l28a l28n l28c) ∧ (Pres w7 w29 ∧ (Calls Tryd.prog 14 #[(.pointer p2)] w29 fun e33 w32 => ∃ l31a l31n l31c, e33 = .returned (.slice l31a l31n l31c) ∧ (Pres w7 w32 ∧ (Calls Tryd.prog 25 #[(.slice l28a l28n l28c), (.slice l31a l31n l31c)] w32 fun e36 w35 => ∃ b34, e36 = .returned (.bool b34) ∧ (Pres w7 w35 ∧ (br b34 (nn p2 fun a37 => ldC (a37.add 4) w7 fun l38a l38n l38c => Calls Tryd.prog 33 #[(.pointer p1)] w35 fun e41 w40 => ∃ l39a l39n l39c, e41 = .returned (.slice l39a l39n l39c) ∧ (Pres w7 w40 ∧ (Calls Tryd.prog 25 #[(.slice l39a l39n l39c), (.slice l38a l38n l38c)] w40 fun e44 w43 => ∃ b42, e44 = .returned (.bool b42) ∧ (Kr (.bool b42) w43)))) (Kr (.bool false) w35)))))))) (Kr (.bool false) w26)))))))) (Kr (.bool false) w15)))) (Kr (.bool false) w6)) (Kr (.bool false) w6))
def F30_1O (Q : Post) (t : Tm) (w : World) : Prop := F30_1 (fun y4 w => ∀ g, rsh [(4, (.one .bool))] (upds g [(4, y4)]) fun t => Q .ret t w) (t 0) (t 1) (t 5) (t 6) (t 7) w
theorem F30_1_step (Kr : Value → World → Prop) (t : Tm) (w : World) : (F30_1 Kr (t 0) (t 1) (t 5) (t 6) (t 7) w) = rsh [(0, (.one .ptr)), (1, (.one .ptr)), (5, (.one (.int .i64))), (6, (.one .bool)), (7, (.one (.int .i64)))] t (fun t => vc Tryd.prog (orcOf []) [1, 1, 1, 1] (getAt F30_code [1, 1, 1, 1]) (F30_1C Kr) t w) := by kernel_rfl
theorem F30_1_ok : ∀ Q t w, F30_1O Q t w → W Tryd.prog Tryd.f30.ntmps (getAt F30_code [1, 1, 1, 1]) Q t w := by
  intro Q t w h
  unfold F30_1O at h
  rw [F30_1_step] at h
  refine (vc_sound mixed (orcNil F30_code) _ _ rfl (okC_at F30_code_ok [1, 1, 1, 1]) _ _ _ (rsh_out h)).mono ?_
  intro o t w q
  cases o with
  | normal => exact q.elim
  | exit i => exact q.elim
  | ret => exact out_ok [4] q
def F30 (x0 : Value) (x1 : Value) (w : World) (K : Value → World → Prop) : Prop :=
  rdP x0 fun p1 => rdP x1 fun p2 => Calls Tryd.prog 22 #[(.pointer p1)] w fun e6 w5 => ∃ n3 b4, e6 = .returned (.tuple #[(.int .i64 n3), (.bool b4)]) ∧ (nn p2 fun a7 => ldB (a7.add 7) w5 fun b8 => br b8 (nn p2 fun a9 => ldI .i64 (a9.add 8) w5 fun n10 => F30_1 (fun y4_10 w12 => ∀ _g13 : Tm, rdB y4_10 fun b14 => K (.bool b14) w12) (.pointer p1) (.pointer p2) (.int .i64 n3) (.bool b4) (.int .i64 n10) w5) (F30_1 (fun y4_14 w16 => ∀ _g17 : Tm, rdB y4_14 fun b18 => K (.bool b18) w16) (.pointer p1) (.pointer p2) (.int .i64 n3) (.bool b4) (.int .i64 0) w5))
theorem F30_step (x0 : Value) (x1 : Value) (w : World) (K : Value → World → Prop) : (F30 x0 x1 w K) = rsh [(0, (.one .ptr)), (1, (.one .ptr))] (args0 #[x0, x1]) (fun t => vc Tryd.prog (orcOf [([1, 1, 1, 1], F30_1O)]) [] F30_code (retQ Tryd.prog Tryd.f30 K) t w) := by kernel_rfl
theorem F30_ok {x0 x1 : Value} {w : World} {K : Value → World → Prop} (h : F30 x0 x1 w K) : Calls Tryd.prog 30 #[x0, x1] w fun e w' => ∃ v, e = .returned v ∧ K v w' := by
  rw [F30_step] at h
  exact calls_of (c := F30_code) mixed Tryd.func30 rfl (nlt rfl) (vc_sound mixed (orcCons (π := [1, 1, 1, 1]) F30_1_ok (orcNil F30_code)) F30_code [] rfl F30_code_ok _ _ _ (rsh_out h))
end Go.Proofs.YtccffjlahpfdaaaDoor
