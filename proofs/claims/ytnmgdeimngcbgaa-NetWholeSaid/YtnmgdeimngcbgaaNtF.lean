/- Own text: part of the shallow reading of the code and of the contracts that are proved over it. -/
import Derived.Test.YtnmgdeimngcbgaaShG
import Derived.Test.YtnmgdeimngcbgaaProg
import Derived.KernelRfl
namespace Go.Proofs.Ytnmgdeimngcbgaa
open Go Go.Sh
set_option maxRecDepth 100000
theorem mixed : Try.prog.follows .mixedOrders = true := by kernel_rfl
/-! ropewalk/ropewalklaw09.NetWhole -/
noncomputable def F3_code : Code := Try.f3.body.getD .skip
theorem F3_code_ok : okC Try.prog Try.f3.ntmps F3_code = true := by kernel_rfl
def F3_1C (Kn : Value → Value → Value → Value → Value → Value → World → Prop) : Post := fun o t w => match o with | .normal => Kn (t 1) (t 2) (t 3) (t 9) (t 12) (t 15) w | .exit i => (False) | .ret => False
def F3_1 (Kn : Value → Value → Value → Value → Value → Value → World → Prop) (x1 : Value) (x2 : Value) (x3 : Value) (x9 : Value) (x12 : Value) (x15 : Value) (w : World) : Prop :=
  rdC x1 fun l1a l1n l1c => rdC x2 fun l2a l2n l2c => rdI .i64 x3 fun n3 => rdP x9 fun p4 => rdI .i64 x12 fun n5 => rdI .i64 x15 fun n6 => ixS 8 l1a l1n n6 fun a7 => ldI .i64 (a7.add 0) w fun n8 => ldI .i64 (a7.add 1) w fun n9 => ldI .i64 (a7.add 2) w fun n10 => ldI .i64 (a7.add 3) w fun n11 => ldI .i64 (a7.add 4) w fun n12 => ldI .i64 (a7.add 5) w fun n13 => ldI .u8 (a7.add 6) w fun n14 => ldC (a7.add 7) w fun l15a l15n l15c => alc (.cells #[(.int .i64 0), (.int .i64 0), (.int .i64 0), (.int .i64 0), (.int .i64 0), (.int .i64 0), (.int .u8 0), (.slice none 0 0)] 32) w fun b16 w17 => stc ((Addr.mk b16 0 none).add 0) (.int .i64 n8) w17 fun w18 => stc ((Addr.mk b16 0 none).add 1) (.int .i64 n9) w18 fun w19 => stc ((Addr.mk b16 0 none).add 2) (.int .i64 n10) w19 fun w20 => stc ((Addr.mk b16 0 none).add 3) (.int .i64 n11) w20 fun w21 => stc ((Addr.mk b16 0 none).add 4) (.int .i64 n12) w21 fun w22 => stc ((Addr.mk b16 0 none).add 5) (.int .i64 n13) w22 fun w23 => stc ((Addr.mk b16 0 none).add 6) (.int .u8 n14) w23 fun w24 => stc ((Addr.mk b16 0 none).add 7) (.slice l15a l15n l15c) w24 fun w25 => ldI .i64 ((Addr.mk b16 0 none).add 2) w25 fun n26 => br (n26 != 0) (alc (.cells #[(.slice none 0 0), (.slice none 0 0), (.int .i64 0)] 38) w25 fun b27 w28 => ldI .i64 ((Addr.mk b16 0 none).add 0) w28 fun n29 => ldI .i64 ((Addr.mk b16 0 none).add 1) w28 fun n30 => ldI .i64 ((Addr.mk b16 0 none).add 2) w28 fun n31 => ldI .i64 ((Addr.mk b16 0 none).add 3) w28 fun n32 => ldI .i64 ((Addr.mk b16 0 none).add 4) w28 fun n33 => ldI .i64 ((Addr.mk b16 0 none).add 5) w28 fun n34 => ldI .u8 ((Addr.mk b16 0 none).add 6) w28 fun n35 => ldC ((Addr.mk b16 0 none).add 7) w28 fun l36a l36n l36c => Calls Try.prog 10 #[(.pointer p4), (.pointer (some (Addr.mk b27 0 none))), (.agg #[(.int .i64 n29), (.int .i64 n30), (.int .i64 n31), (.int .i64 n32), (.int .i64 n33), (.int .i64 n34), (.int .u8 n35), (.slice l36a l36n l36c)])] w28 fun e39 w38 => ∃ b37, e39 = .returned (.bool b37) ∧ (Kn (.slice l1a l1n l1c) (.slice l2a l2n l2c) (.int .i64 n3) (.pointer p4) (.int .i64 n5) (.int .i64 (IntKind.wrap .i64 (n6 + 1))) w38)) (Kn (.slice l1a l1n l1c) (.slice l2a l2n l2c) (.int .i64 n3) (.pointer p4) (.int .i64 n5) (.int .i64 (IntKind.wrap .i64 (n6 + 1))) w25)
def F3_1O (Q : Post) (t : Tm) (w : World) : Prop := F3_1 (fun y1 y2 y3 y9 y12 y15 w => ∀ g, rsh [(1, (.one .slc)), (2, (.one .slc)), (3, (.one (.int .i64))), (9, (.one .ptr)), (12, (.one (.int .i64))), (15, (.one (.int .i64)))] (upds g [(1, y1), (2, y2), (3, y3), (9, y9), (12, y12), (15, y15)]) fun t => Q .normal t w) (t 1) (t 2) (t 3) (t 9) (t 12) (t 15) w
theorem F3_1_step (Kn : Value → Value → Value → Value → Value → Value → World → Prop) (t : Tm) (w : World) : (F3_1 Kn (t 1) (t 2) (t 3) (t 9) (t 12) (t 15) w) = rsh [(1, (.one .slc)), (2, (.one .slc)), (3, (.one (.int .i64))), (9, (.one .ptr)), (12, (.one (.int .i64))), (15, (.one (.int .i64)))] t (fun t => vc Try.prog (orcOf []) [1, 0, 0, 1, 0, 1, 1, 1, 1, 1, 1, 1] (getAt F3_code [1, 0, 0, 1, 0, 1, 1, 1, 1, 1, 1, 1]) (F3_1C Kn) t w) := by kernel_rfl
theorem F3_1_ok : ∀ Q t w, F3_1O Q t w → W Try.prog Try.f3.ntmps (getAt F3_code [1, 0, 0, 1, 0, 1, 1, 1, 1, 1, 1, 1]) Q t w := by
  intro Q t w h
  unfold F3_1O at h
  rw [F3_1_step] at h
  refine (vc_sound mixed (orcNil F3_code) _ _ rfl (okC_at F3_code_ok [1, 0, 0, 1, 0, 1, 1, 1, 1, 1, 1, 1]) _ _ _ (rsh_out h)).mono ?_
  intro o t w q
  cases o with
  | normal => exact out_ok [1, 2, 3, 9, 12, 15] q
  | exit i => exact q.elim
  | ret => exact q.elim
def F3_2C (K2 : Value → Value → Value → Value → World → Prop) : Post := fun o t w => match o with | .normal => False | .exit i => (match Nat.beq i 2 with | true => K2 (t 2) (t 3) (t 9) (t 12) w | false => False) | .ret => False
def F3_2B (R : Value → Value → Value → Value → Value → Value → World → Prop) (K2 : Value → Value → Value → Value → World → Prop) (x1 : Value) (x2 : Value) (x3 : Value) (x9 : Value) (x12 : Value) (x15 : Value) (w : World) : Prop :=
  rdC x1 fun l1a l1n l1c => rdC x2 fun l2a l2n l2c => rdI .i64 x3 fun n3 => rdP x9 fun p4 => rdI .i64 x12 fun n5 => rdI .i64 x15 fun n6 => br (decide ((n6 : Int) < (l1n : Int))) (br (decide ((n6 : Int) < 400)) (F3_1 (fun y1_6 y2_6 y3_6 y9_6 y12_6 y15_6 w8 => ∀ _g9 : Tm, rdC y1_6 fun l10a l10n l10c => rdC y2_6 fun l11a l11n l11c => rdI .i64 y3_6 fun n12 => rdP y9_6 fun p13 => rdI .i64 y12_6 fun n14 => rdI .i64 y15_6 fun n15 => R (.slice l10a l10n l10c) (.slice l11a l11n l11c) (.int .i64 n12) (.pointer p13) (.int .i64 n14) (.int .i64 n15) w8) (.slice l1a l1n l1c) (.slice l2a l2n l2c) (.int .i64 n3) (.pointer p4) (.int .i64 n5) (.int .i64 n6) w) (K2 (.slice l2a l2n l2c) (.int .i64 n3) (.pointer p4) (.int .i64 n5) w)) (K2 (.slice l2a l2n l2c) (.int .i64 n3) (.pointer p4) (.int .i64 n5) w)
def F3_2 (K2 : Value → Value → Value → Value → World → Prop) : Nat → Value → Value → Value → Value → Value → Value → World → Prop
  | 0 => fun _ _ _ _ _ _ _ => False
  | n + 1 => F3_2B (F3_2 K2 n) K2
def F3_2O (Q : Post) (t : Tm) (w : World) : Prop := ∃ n, F3_2 (fun y2 y3 y9 y12 w => ∀ g, rsh [(2, (.one .slc)), (3, (.one (.int .i64))), (9, (.one .ptr)), (12, (.one (.int .i64)))] (upds g [(2, y2), (3, y3), (9, y9), (12, y12)]) fun t => Q (.exit 2) t w) n (t 1) (t 2) (t 3) (t 9) (t 12) (t 15) w
theorem F3_2_step (K2 : Value → Value → Value → Value → World → Prop) (n : Nat) (t : Tm) (w : World) : (F3_2 K2 (n + 1) (t 1) (t 2) (t 3) (t 9) (t 12) (t 15) w) = rsh [(1, (.one .slc)), (2, (.one .slc)), (3, (.one (.int .i64))), (9, (.one .ptr)), (12, (.one (.int .i64))), (15, (.one (.int .i64)))] t (fun t => vc Try.prog (orcOf [([1, 0, 0, 1, 0, 1, 1, 1, 1, 1, 1, 1], F3_1O)]) [0, 0, 1, 0, 1, 1, 1, 1, 1, 1, 1] (getAt F3_code [0, 0, 1, 0, 1, 1, 1, 1, 1, 1, 1]) (fun o t w => match o with | .normal => F3_2 K2 n (t 1) (t 2) (t 3) (t 9) (t 12) (t 15) w | .exit i => F3_2C K2 (.exit i) t w | .ret => F3_2C K2 .ret t w) t w) := by kernel_rfl
theorem F3_2_ok : ∀ Q t w, F3_2O Q t w → W Try.prog Try.f3.ntmps (getAt F3_code [0, 1, 0, 1, 1, 1, 1, 1, 1, 1]) Q t w := by
  intro Q t w ⟨n, h⟩
  refine (W_loop (P := Try.prog) (b := getAt F3_code [0, 0, 1, 0, 1, 1, 1, 1, 1, 1, 1]) (Q := F3_2C (fun y2 y3 y9 y12 w => ∀ g, rsh [(2, (.one .slc)), (3, (.one (.int .i64))), (9, (.one .ptr)), (12, (.one (.int .i64)))] (upds g [(2, y2), (3, y3), (9, y9), (12, y12)]) fun t => Q (.exit 2) t w)) (G := fun n t w => F3_2 (fun y2 y3 y9 y12 w => ∀ g, rsh [(2, (.one .slc)), (3, (.one (.int .i64))), (9, (.one .ptr)), (12, (.one (.int .i64)))] (upds g [(2, y2), (3, y3), (9, y9), (12, y12)]) fun t => Q (.exit 2) t w) n (t 1) (t 2) (t 3) (t 9) (t 12) (t 15) w) (fun _ _ h => h) (fun n t w h => ?_) n t w h).mono ?_
  · rw [F3_2_step] at h
    exact vc_sound mixed (orcCons (π := [1, 0, 0, 1, 0, 1, 1, 1, 1, 1, 1, 1]) F3_1_ok (orcNil F3_code)) _ _ rfl (okC_at F3_code_ok [0, 0, 1, 0, 1, 1, 1, 1, 1, 1, 1]) _ _ _ (rsh_out h)
  · intro o t w q
    cases o with
    | normal => exact q.elim
    | exit i =>
      unfold F3_2C at q
      simp only at q
      split at q
      · rename_i hi
        rw [nbeq] at hi
        subst hi
        exact out_ok [2, 3, 9, 12] q
      · exact q.elim
    | ret => exact q.elim
def F3_3C (Kr : Value → World → Prop) : Post := fun o t w => match o with | .normal => False | .exit i => (False) | .ret => Kr (t 8) w
def F3_3 (Kr : Value → World → Prop) (x2 : Value) (x9 : Value) (w : World) : Prop :=
  rdC x2 fun l1a l1n l1c => rdP x9 fun p2 => Calls Try.prog 12 #[(.pointer p2), (.int .i64 0), (.int .i64 0), (.int .i64 0)] w fun e6 w5 => ∃ l3a l3n l3c n4, e6 = .returned (.tuple #[(.slice l3a l3n l3c), (.int .i64 n4)]) ∧ (br (n4 == 0) (∃ s7 w8, Sem.run Try.prog (convert 23 9 (.slice l3a l3n l3c)) w5 = .ok (.string s7) w8 ∧ (∃ s9 w10, Sem.run Try.prog (convert 23 9 (.slice l1a l1n l1c)) w8 = .ok (.string s9) w10 ∧ (br (ByteArray.toList s7 == ByteArray.toList s9) (Calls Try.prog 8 #[] w10 fun e13 w12 => ∃ b11, e13 = .returned (.bool b11) ∧ (Kr (.bool b11) w12)) (Kr (.bool false) w10)))) (Kr (.bool false) w5))
def F3_3O (Q : Post) (t : Tm) (w : World) : Prop := F3_3 (fun y8 w => ∀ g, rsh [(8, (.one .bool))] (upds g [(8, y8)]) fun t => Q .ret t w) (t 2) (t 9) w
theorem F3_3_step (Kr : Value → World → Prop) (t : Tm) (w : World) : (F3_3 Kr (t 2) (t 9) w) = rsh [(2, (.one .slc)), (9, (.one .ptr))] t (fun t => vc Try.prog (orcOf []) [1, 1, 1, 1, 1, 1, 1, 1, 1, 1] (getAt F3_code [1, 1, 1, 1, 1, 1, 1, 1, 1, 1]) (F3_3C Kr) t w) := by kernel_rfl
theorem F3_3_ok : ∀ Q t w, F3_3O Q t w → W Try.prog Try.f3.ntmps (getAt F3_code [1, 1, 1, 1, 1, 1, 1, 1, 1, 1]) Q t w := by
  intro Q t w h
  unfold F3_3O at h
  rw [F3_3_step] at h
  refine (vc_sound mixed (orcNil F3_code) _ _ rfl (okC_at F3_code_ok [1, 1, 1, 1, 1, 1, 1, 1, 1, 1]) _ _ _ (rsh_out h)).mono ?_
  intro o t w q
  cases o with
  | normal => exact q.elim
  | exit i => exact q.elim
  | ret => exact out_ok [8] q
def F3_4C (K0 : Value → Value → Value → Value → Value → World → Prop) : Post := fun o t w => match o with | .normal => False | .exit i => (match Nat.beq i 0 with | true => K0 (t 1) (t 2) (t 3) (t 9) (t 12) w | false => False) | .ret => False
def F3_4B (R : Value → Value → Value → Value → Value → Value → Value → Value → World → Prop) (K0 : Value → Value → Value → Value → Value → World → Prop) (x1 : Value) (x2 : Value) (x3 : Value) (x9 : Value) (x11 : Value) (x12 : Value) (x51 : Value) (x52 : Value) (w : World) : Prop :=
  rdC x1 fun l1a l1n l1c => rdC x2 fun l2a l2n l2c => rdI .i64 x3 fun n3 => rdP x9 fun p4 => rdC x11 fun l5a l5n l5c => rdI .i64 x12 fun n6 => rdI .i64 x51 fun n7 => rdI .i64 x52 fun n8 => br (decide ((n8 : Int) < n7)) (ixS 1 l5a l5n n8 fun a9 => ldI .u8 a9 w fun n10 => ixS 1 l5a l5n n8 fun a11 => stc a11 (.int .u8 (bitI .xor .u8 n10 255)) w fun w12 => R (.slice l1a l1n l1c) (.slice l2a l2n l2c) (.int .i64 n3) (.pointer p4) (.slice l5a l5n l5c) (.int .i64 n6) (.int .i64 n7) (.int .i64 (IntKind.wrap .i64 (n8 + 1))) w12) (K0 (.slice l1a l1n l1c) (.slice l2a l2n l2c) (.int .i64 n3) (.pointer p4) (.int .i64 n6) w)
def F3_4 (K0 : Value → Value → Value → Value → Value → World → Prop) : Nat → Value → Value → Value → Value → Value → Value → Value → Value → World → Prop
  | 0 => fun _ _ _ _ _ _ _ _ _ => False
  | n + 1 => F3_4B (F3_4 K0 n) K0
def F3_4O (Q : Post) (t : Tm) (w : World) : Prop := ∃ n, F3_4 (fun y1 y2 y3 y9 y12 w => ∀ g, rsh [(1, (.one .slc)), (2, (.one .slc)), (3, (.one (.int .i64))), (9, (.one .ptr)), (12, (.one (.int .i64)))] (upds g [(1, y1), (2, y2), (3, y3), (9, y9), (12, y12)]) fun t => Q (.exit 0) t w) n (t 1) (t 2) (t 3) (t 9) (t 11) (t 12) (t 51) (t 52) w
theorem F3_4_step (K0 : Value → Value → Value → Value → Value → World → Prop) (n : Nat) (t : Tm) (w : World) : (F3_4 K0 (n + 1) (t 1) (t 2) (t 3) (t 9) (t 11) (t 12) (t 51) (t 52) w) = rsh [(1, (.one .slc)), (2, (.one .slc)), (3, (.one (.int .i64))), (9, (.one .ptr)), (11, (.one .slc)), (12, (.one (.int .i64))), (51, (.one (.int .i64))), (52, (.one (.int .i64)))] t (fun t => vc Try.prog (orcOf []) [0, 0, 1, 0, 1, 1, 1, 1, 1, 1] (getAt F3_code [0, 0, 1, 0, 1, 1, 1, 1, 1, 1]) (fun o t w => match o with | .normal => F3_4 K0 n (t 1) (t 2) (t 3) (t 9) (t 11) (t 12) (t 51) (t 52) w | .exit i => F3_4C K0 (.exit i) t w | .ret => F3_4C K0 .ret t w) t w) := by kernel_rfl
theorem F3_4_ok : ∀ Q t w, F3_4O Q t w → W Try.prog Try.f3.ntmps (getAt F3_code [0, 1, 0, 1, 1, 1, 1, 1, 1]) Q t w := by
  intro Q t w ⟨n, h⟩
  refine (W_loop (P := Try.prog) (b := getAt F3_code [0, 0, 1, 0, 1, 1, 1, 1, 1, 1]) (Q := F3_4C (fun y1 y2 y3 y9 y12 w => ∀ g, rsh [(1, (.one .slc)), (2, (.one .slc)), (3, (.one (.int .i64))), (9, (.one .ptr)), (12, (.one (.int .i64)))] (upds g [(1, y1), (2, y2), (3, y3), (9, y9), (12, y12)]) fun t => Q (.exit 0) t w)) (G := fun n t w => F3_4 (fun y1 y2 y3 y9 y12 w => ∀ g, rsh [(1, (.one .slc)), (2, (.one .slc)), (3, (.one (.int .i64))), (9, (.one .ptr)), (12, (.one (.int .i64)))] (upds g [(1, y1), (2, y2), (3, y3), (9, y9), (12, y12)]) fun t => Q (.exit 0) t w) n (t 1) (t 2) (t 3) (t 9) (t 11) (t 12) (t 51) (t 52) w) (fun _ _ h => h) (fun n t w h => ?_) n t w h).mono ?_
  · rw [F3_4_step] at h
    exact vc_sound mixed (orcNil F3_code) _ _ rfl (okC_at F3_code_ok [0, 0, 1, 0, 1, 1, 1, 1, 1, 1]) _ _ _ (rsh_out h)
  · intro o t w q
    cases o with
    | normal => exact q.elim
    | exit i =>
      unfold F3_4C at q
      simp only at q
      split at q
      · rename_i hi
        rw [nbeq] at hi
        subst hi
        exact out_ok [1, 2, 3, 9, 12] q
      · exact q.elim
    | ret => exact q.elim
def F3_5C (Kr : Value → World → Prop) : Post := fun o t w => match o with | .normal => False | .exit i => (False) | .ret => Kr (t 8) w
def F3_5 (Kr : Value → World → Prop) (x1 : Value) (x2 : Value) (x3 : Value) (x9 : Value) (w : World) : Prop :=
  rdC x1 fun l1a l1n l1c => rdC x2 fun l2a l2n l2c => rdI .i64 x3 fun n3 => rdP x9 fun p4 => ∃ l5a l5n l5c w6, Sem.run Try.prog (Instr.buildSlice 23 0 #[]) w = .ok (.slice l5a l5n l5c) w6 ∧ (∃ l7a l7n l7c w8, Sem.run Try.prog (Builtin.append_ #[23, 23] 23 #[(.slice l5a l5n l5c), (.slice l2a l2n l2c)]) w6 = .ok (.slice l7a l7n l7c) w8 ∧ (Calls Try.prog 9 #[(.pointer p4), (.int .i64 0), (.int .i64 0), (.slice l7a l7n l7c), (.int .i64 n3)] w8 fun e12 w11 => ∃ n9 n10, e12 = .returned (.tuple #[(.int .i64 n9), (.int .i64 n10)]) ∧ (br (n10 != 0) (Calls Try.prog 8 #[] w11 fun e15 w14 => ∃ b13, e15 = .returned (.bool b13) ∧ (Kr (.bool b13) w14)) (∃ k44 : Nat, F3_4 (fun y1_15 y2_15 y3_15 y9_15 y12_15 w17 => ∀ _g18 : Tm, rdC y1_15 fun l19a l19n l19c => rdC y2_15 fun l20a l20n l20c => rdI .i64 y3_15 fun n21 => rdP y9_15 fun p22 => rdI .i64 y12_15 fun n23 => ∃ k43 : Nat, F3_2 (fun y2_23 y3_23 y9_23 y12_23 w25 => ∀ _g26 : Tm, rdC y2_23 fun l27a l27n l27c => rdI .i64 y3_23 fun n28 => rdP y9_23 fun p29 => rdI .i64 y12_23 fun n30 => Calls Try.prog 11 #[(.pointer p29), (.int .i64 0), (.int .i64 0)] w25 fun e34 w33 => ∃ l31a l31n l31c n32, e34 = .returned (.tuple #[(.slice l31a l31n l31c), (.int .i64 n32)]) ∧ (br (n32 != 0) (Kr (.bool false) w33) (br ((l31n : Int) != 1) (Kr (.bool false) w33) (ixS 4 l31a l31n 0 fun a35 => ldI .i64 (a35.add 0) w33 fun n36 => br (n36 != n30) (Kr (.bool false) w33) (ixS 4 l31a l31n 0 fun a37 => ldI .i64 (a37.add 1) w33 fun n38 => br (n38 != n28) (Kr (.bool false) w33) (F3_3 (fun y8_38 w40 => ∀ _g41 : Tm, rdB y8_38 fun b42 => Kr (.bool b42) w40) (.slice l27a l27n l27c) (.pointer p29) w33)))))) k43 (.slice l19a l19n l19c) (.slice l20a l20n l20c) (.int .i64 n21) (.pointer p22) (.int .i64 n23) (.int .i64 0) w17) k44 (.slice l1a l1n l1c) (.slice l2a l2n l2c) (.int .i64 n3) (.pointer p4) (.slice l7a l7n l7c) (.int .i64 n9) (.int .i64 (l7n : Int)) (.int .i64 0) w11))))
def F3_5O (Q : Post) (t : Tm) (w : World) : Prop := F3_5 (fun y8 w => ∀ g, rsh [(8, (.one .bool))] (upds g [(8, y8)]) fun t => Q .ret t w) (t 1) (t 2) (t 3) (t 9) w
theorem F3_5_step (Kr : Value → World → Prop) (t : Tm) (w : World) : (F3_5 Kr (t 1) (t 2) (t 3) (t 9) w) = rsh [(1, (.one .slc)), (2, (.one .slc)), (3, (.one (.int .i64))), (9, (.one .ptr))] t (fun t => vc Try.prog (orcOf [([1, 0, 0, 1, 0, 1, 1, 1, 1, 1, 1, 1], F3_1O), ([0, 1, 0, 1, 1, 1, 1, 1, 1, 1], F3_2O), ([1, 1, 1, 1, 1, 1, 1, 1, 1, 1], F3_3O), ([0, 1, 0, 1, 1, 1, 1, 1, 1], F3_4O)]) [1, 1, 1] (getAt F3_code [1, 1, 1]) (F3_5C Kr) t w) := by kernel_rfl
theorem F3_5_ok : ∀ Q t w, F3_5O Q t w → W Try.prog Try.f3.ntmps (getAt F3_code [1, 1, 1]) Q t w := by
  intro Q t w h
  unfold F3_5O at h
  rw [F3_5_step] at h
  refine (vc_sound mixed (orcCons (π := [1, 0, 0, 1, 0, 1, 1, 1, 1, 1, 1, 1]) F3_1_ok (orcCons (π := [0, 1, 0, 1, 1, 1, 1, 1, 1, 1]) F3_2_ok (orcCons (π := [1, 1, 1, 1, 1, 1, 1, 1, 1, 1]) F3_3_ok (orcCons (π := [0, 1, 0, 1, 1, 1, 1, 1, 1]) F3_4_ok (orcNil F3_code))))) _ _ rfl (okC_at F3_code_ok [1, 1, 1]) _ _ _ (rsh_out h)).mono ?_
  intro o t w q
  cases o with
  | normal => exact q.elim
  | exit i => exact q.elim
  | ret => exact out_ok [8] q
def F3 (x0 : Value) (x1 : Value) (x2 : Value) (x3 : Value) (w : World) (K : Value → World → Prop) : Prop :=
  rdI .i64 x0 fun n1 => rdC x1 fun l2a l2n l2c => rdC x2 fun l3a l3n l3c => rdI .i64 x3 fun n4 => Calls Try.prog 7 #[(.int .i64 n1)] w fun e8 w7 => ∃ p5 n6, e8 = .returned (.tuple #[(.pointer p5), (.int .i64 n6)]) ∧ (br (n6 != 0) (br (n6 != 0) (Calls Try.prog 8 #[] w7 fun e11 w10 => ∃ b9, e11 = .returned (.bool b9) ∧ (K (.bool b9) w10)) (K (.bool false) w7)) (br (Option.isNone p5) (br (n6 != 0) (Calls Try.prog 8 #[] w7 fun e14 w13 => ∃ b12, e14 = .returned (.bool b12) ∧ (K (.bool b12) w13)) (K (.bool false) w7)) (F3_5 (fun y8_14 w16 => ∀ _g17 : Tm, rdB y8_14 fun b18 => K (.bool b18) w16) (.slice l2a l2n l2c) (.slice l3a l3n l3c) (.int .i64 n4) (.pointer p5) w7)))
theorem F3_step (x0 : Value) (x1 : Value) (x2 : Value) (x3 : Value) (w : World) (K : Value → World → Prop) : (F3 x0 x1 x2 x3 w K) = rsh [(0, (.one (.int .i64))), (1, (.one .slc)), (2, (.one .slc)), (3, (.one (.int .i64)))] (args0 #[x0, x1, x2, x3]) (fun t => vc Try.prog (orcOf [([1, 0, 0, 1, 0, 1, 1, 1, 1, 1, 1, 1], F3_1O), ([0, 1, 0, 1, 1, 1, 1, 1, 1, 1], F3_2O), ([1, 1, 1, 1, 1, 1, 1, 1, 1, 1], F3_3O), ([0, 1, 0, 1, 1, 1, 1, 1, 1], F3_4O), ([1, 1, 1], F3_5O)]) [] F3_code (retQ Try.prog Try.f3 K) t w) := by kernel_rfl
theorem F3_ok {x0 x1 x2 x3 : Value} {w : World} {K : Value → World → Prop} (h : F3 x0 x1 x2 x3 w K) : Calls Try.prog 3 #[x0, x1, x2, x3] w fun e w' => ∃ v, e = .returned v ∧ K v w' := by
  rw [F3_step] at h
  exact calls_of (c := F3_code) mixed Try.func3 rfl (nlt rfl) (vc_sound mixed (orcCons (π := [1, 0, 0, 1, 0, 1, 1, 1, 1, 1, 1, 1]) F3_1_ok (orcCons (π := [0, 1, 0, 1, 1, 1, 1, 1, 1, 1]) F3_2_ok (orcCons (π := [1, 1, 1, 1, 1, 1, 1, 1, 1, 1]) F3_3_ok (orcCons (π := [0, 1, 0, 1, 1, 1, 1, 1, 1]) F3_4_ok (orcCons (π := [1, 1, 1]) F3_5_ok (orcNil F3_code)))))) F3_code [] rfl F3_code_ok _ _ _ (rsh_out h))

/-! ropewalk/ropewalklaw09.NetTells -/
noncomputable def F4_code : Code := Try.f4.body.getD .skip
theorem F4_code_ok : okC Try.prog Try.f4.ntmps F4_code = true := by kernel_rfl
def F4_1C (K4 : Value → Value → Value → World → Prop) (Kr : Value → World → Prop) : Post := fun o t w => match o with | .normal => False | .exit i => (match Nat.beq i 4 with | true => K4 (t 0) (t 5) (t 9) w | false => False) | .ret => Kr (t 4) w
def F4_1B (R : Value → Value → Value → Value → World → Prop) (K4 : Value → Value → Value → World → Prop) (Kr : Value → World → Prop) (x0 : Value) (x5 : Value) (x9 : Value) (x10 : Value) (w : World) : Prop :=
  rdI .i64 x0 fun n1 => rdP x5 fun p2 => rdI .i64 x9 fun n3 => rdI .i64 x10 fun n4 => br (decide ((n4 : Int) < 2)) (Calls Try.prog 11 #[(.pointer p2), (.int .i64 n4), (.int .i64 n3)] w fun e8 w7 => ∃ l5a l5n l5c n6, e8 = .returned (.tuple #[(.slice l5a l5n l5c), (.int .i64 n6)]) ∧ (Calls Try.prog 13 #[(.pointer p2), (.int .i64 n4), (.int .i64 n3)] w7 fun e15 w14 => ∃ n9 n10 n11 n12 n13, e15 = .returned (.tuple #[(.agg #[(.int .i64 n9), (.int .i64 n10), (.int .i64 n11), (.int .i64 n12)]), (.int .i64 n13)]) ∧ (alc (.cells #[(.int .i64 0), (.int .i64 0), (.int .i64 0), (.int .i64 0)] 48) w14 fun b16 w17 => stc ((Addr.mk b16 0 none).add 0) (.int .i64 n9) w17 fun w18 => stc ((Addr.mk b16 0 none).add 1) (.int .i64 n10) w18 fun w19 => stc ((Addr.mk b16 0 none).add 2) (.int .i64 n11) w19 fun w20 => stc ((Addr.mk b16 0 none).add 3) (.int .i64 n12) w20 fun w21 => br (n6 != 0) (Kr (.bool false) w21) (br (n13 != 0) (Kr (.bool false) w21) (ldI .i64 ((Addr.mk b16 0 none).add 0) w21 fun n22 => ldI .i64 ((Addr.mk b16 0 none).add 3) w21 fun n23 => ldI .i64 ((Addr.mk b16 0 none).add 1) w21 fun n24 => ldI .i64 ((Addr.mk b16 0 none).add 2) w21 fun n25 => br ((IntKind.wrap .i64 (n22 + n23)) != (IntKind.wrap .i64 ((IntKind.wrap .i64 (n24 + n25)) + (l5n : Int)))) (Kr (.bool false) w21) (R (.int .i64 n1) (.pointer p2) (.int .i64 n3) (.int .i64 (IntKind.wrap .i64 (n4 + 1))) w21)))))) (K4 (.int .i64 n1) (.pointer p2) (.int .i64 n3) w)
def F4_1 (K4 : Value → Value → Value → World → Prop) (Kr : Value → World → Prop) : Nat → Value → Value → Value → Value → World → Prop
  | 0 => fun _ _ _ _ _ => False
  | n + 1 => F4_1B (F4_1 K4 Kr n) K4 Kr
def F4_1O (Q : Post) (t : Tm) (w : World) : Prop := ∃ n, F4_1 (fun y0 y5 y9 w => ∀ g, rsh [(0, (.one (.int .i64))), (5, (.one .ptr)), (9, (.one (.int .i64)))] (upds g [(0, y0), (5, y5), (9, y9)]) fun t => Q (.exit 4) t w) (fun y4 w => ∀ g, rsh [(4, (.one .bool))] (upds g [(4, y4)]) fun t => Q .ret t w) n (t 0) (t 5) (t 9) (t 10) w
theorem F4_1_step (K4 : Value → Value → Value → World → Prop) (Kr : Value → World → Prop) (n : Nat) (t : Tm) (w : World) : (F4_1 K4 Kr (n + 1) (t 0) (t 5) (t 9) (t 10) w) = rsh [(0, (.one (.int .i64))), (5, (.one .ptr)), (9, (.one (.int .i64))), (10, (.one (.int .i64)))] t (fun t => vc Try.prog (orcOf []) [0, 0, 1, 0, 0, 1, 0, 0, 1, 0, 1, 1, 1, 1, 1] (getAt F4_code [0, 0, 1, 0, 0, 1, 0, 0, 1, 0, 1, 1, 1, 1, 1]) (fun o t w => match o with | .normal => F4_1 K4 Kr n (t 0) (t 5) (t 9) (t 10) w | .exit i => F4_1C K4 Kr (.exit i) t w | .ret => F4_1C K4 Kr .ret t w) t w) := by kernel_rfl
theorem F4_1_ok : ∀ Q t w, F4_1O Q t w → W Try.prog Try.f4.ntmps (getAt F4_code [0, 1, 0, 0, 1, 0, 0, 1, 0, 1, 1, 1, 1, 1]) Q t w := by
  intro Q t w ⟨n, h⟩
  refine (W_loop (P := Try.prog) (b := getAt F4_code [0, 0, 1, 0, 0, 1, 0, 0, 1, 0, 1, 1, 1, 1, 1]) (Q := F4_1C (fun y0 y5 y9 w => ∀ g, rsh [(0, (.one (.int .i64))), (5, (.one .ptr)), (9, (.one (.int .i64)))] (upds g [(0, y0), (5, y5), (9, y9)]) fun t => Q (.exit 4) t w) (fun y4 w => ∀ g, rsh [(4, (.one .bool))] (upds g [(4, y4)]) fun t => Q .ret t w)) (G := fun n t w => F4_1 (fun y0 y5 y9 w => ∀ g, rsh [(0, (.one (.int .i64))), (5, (.one .ptr)), (9, (.one (.int .i64)))] (upds g [(0, y0), (5, y5), (9, y9)]) fun t => Q (.exit 4) t w) (fun y4 w => ∀ g, rsh [(4, (.one .bool))] (upds g [(4, y4)]) fun t => Q .ret t w) n (t 0) (t 5) (t 9) (t 10) w) (fun _ _ h => h) (fun n t w h => ?_) n t w h).mono ?_
  · rw [F4_1_step] at h
    exact vc_sound mixed (orcNil F4_code) _ _ rfl (okC_at F4_code_ok [0, 0, 1, 0, 0, 1, 0, 0, 1, 0, 1, 1, 1, 1, 1]) _ _ _ (rsh_out h)
  · intro o t w q
    cases o with
    | normal => exact q.elim
    | exit i =>
      unfold F4_1C at q
      simp only at q
      split at q
      · rename_i hi
        rw [nbeq] at hi
        subst hi
        exact out_ok [0, 5, 9] q
      · exact q.elim
    | ret => exact out_ok [4] q
def F4_2C (Kn : Value → Value → Value → Value → World → Prop) : Post := fun o t w => match o with | .normal => Kn (t 0) (t 1) (t 5) (t 7) w | .exit i => (False) | .ret => False
def F4_2 (Kn : Value → Value → Value → Value → World → Prop) (x0 : Value) (x1 : Value) (x5 : Value) (x7 : Value) (w : World) : Prop :=
  rdI .i64 x0 fun n1 => rdC x1 fun l2a l2n l2c => rdP x5 fun p3 => rdI .i64 x7 fun n4 => alc (.cells #[(.slice none 0 0), (.slice none 0 0), (.int .i64 0)] 38) w fun b5 w6 => ixS 8 l2a l2n n4 fun a7 => ldI .i64 (a7.add 0) w6 fun n8 => ldI .i64 (a7.add 1) w6 fun n9 => ldI .i64 (a7.add 2) w6 fun n10 => ldI .i64 (a7.add 3) w6 fun n11 => ldI .i64 (a7.add 4) w6 fun n12 => ldI .i64 (a7.add 5) w6 fun n13 => ldI .u8 (a7.add 6) w6 fun n14 => ldC (a7.add 7) w6 fun l15a l15n l15c => Calls Try.prog 10 #[(.pointer p3), (.pointer (some (Addr.mk b5 0 none))), (.agg #[(.int .i64 n8), (.int .i64 n9), (.int .i64 n10), (.int .i64 n11), (.int .i64 n12), (.int .i64 n13), (.int .u8 n14), (.slice l15a l15n l15c)])] w6 fun e18 w17 => ∃ b16, e18 = .returned (.bool b16) ∧ (Kn (.int .i64 n1) (.slice l2a l2n l2c) (.pointer p3) (.int .i64 (IntKind.wrap .i64 (n4 + 1))) w17)
def F4_2O (Q : Post) (t : Tm) (w : World) : Prop := F4_2 (fun y0 y1 y5 y7 w => ∀ g, rsh [(0, (.one (.int .i64))), (1, (.one .slc)), (5, (.one .ptr)), (7, (.one (.int .i64)))] (upds g [(0, y0), (1, y1), (5, y5), (7, y7)]) fun t => Q .normal t w) (t 0) (t 1) (t 5) (t 7) w
theorem F4_2_step (Kn : Value → Value → Value → Value → World → Prop) (t : Tm) (w : World) : (F4_2 Kn (t 0) (t 1) (t 5) (t 7) w) = rsh [(0, (.one (.int .i64))), (1, (.one .slc)), (5, (.one .ptr)), (7, (.one (.int .i64)))] t (fun t => vc Try.prog (orcOf []) [1, 0, 0, 1, 0, 1, 1, 1, 1] (getAt F4_code [1, 0, 0, 1, 0, 1, 1, 1, 1]) (F4_2C Kn) t w) := by kernel_rfl
theorem F4_2_ok : ∀ Q t w, F4_2O Q t w → W Try.prog Try.f4.ntmps (getAt F4_code [1, 0, 0, 1, 0, 1, 1, 1, 1]) Q t w := by
  intro Q t w h
  unfold F4_2O at h
  rw [F4_2_step] at h
  refine (vc_sound mixed (orcNil F4_code) _ _ rfl (okC_at F4_code_ok [1, 0, 0, 1, 0, 1, 1, 1, 1]) _ _ _ (rsh_out h)).mono ?_
  intro o t w q
  cases o with
  | normal => exact out_ok [0, 1, 5, 7] q
  | exit i => exact q.elim
  | ret => exact q.elim
def F4_3C (K2 : World → Prop) (Kr : Value → World → Prop) : Post := fun o t w => match o with | .normal => False | .exit i => (match Nat.beq i 2 with | true => K2  w | false => False) | .ret => Kr (t 4) w
def F4_3B (R : Value → Value → Value → World → Prop) (K2 : World → Prop) (Kr : Value → World → Prop) (x0 : Value) (x5 : Value) (x9 : Value) (w : World) : Prop :=
  rdI .i64 x0 fun n1 => rdP x5 fun p2 => rdI .i64 x9 fun n3 => br (decide ((n3 : Int) < n1)) (∃ k14 : Nat, F4_1 (fun y0_3 y5_3 y9_3 w5 => ∀ _g6 : Tm, rdI .i64 y0_3 fun n7 => rdP y5_3 fun p8 => rdI .i64 y9_3 fun n9 => R (.int .i64 n7) (.pointer p8) (.int .i64 (IntKind.wrap .i64 (n9 + 1))) w5) (fun y4_9 w11 => ∀ _g12 : Tm, rdB y4_9 fun b13 => Kr (.bool b13) w11) k14 (.int .i64 n1) (.pointer p2) (.int .i64 n3) (.int .i64 0) w) (K2 w)
def F4_3 (K2 : World → Prop) (Kr : Value → World → Prop) : Nat → Value → Value → Value → World → Prop
  | 0 => fun _ _ _ _ => False
  | n + 1 => F4_3B (F4_3 K2 Kr n) K2 Kr
def F4_3O (Q : Post) (t : Tm) (w : World) : Prop := ∃ n, F4_3 (fun w => ∀ g, rsh [] (upds g []) fun t => Q (.exit 2) t w) (fun y4 w => ∀ g, rsh [(4, (.one .bool))] (upds g [(4, y4)]) fun t => Q .ret t w) n (t 0) (t 5) (t 9) w
theorem F4_3_step (K2 : World → Prop) (Kr : Value → World → Prop) (n : Nat) (t : Tm) (w : World) : (F4_3 K2 Kr (n + 1) (t 0) (t 5) (t 9) w) = rsh [(0, (.one (.int .i64))), (5, (.one .ptr)), (9, (.one (.int .i64)))] t (fun t => vc Try.prog (orcOf [([0, 1, 0, 0, 1, 0, 0, 1, 0, 1, 1, 1, 1, 1], F4_1O)]) [0, 0, 1, 0, 1, 1, 1, 1, 1] (getAt F4_code [0, 0, 1, 0, 1, 1, 1, 1, 1]) (fun o t w => match o with | .normal => F4_3 K2 Kr n (t 0) (t 5) (t 9) w | .exit i => F4_3C K2 Kr (.exit i) t w | .ret => F4_3C K2 Kr .ret t w) t w) := by kernel_rfl
theorem F4_3_ok : ∀ Q t w, F4_3O Q t w → W Try.prog Try.f4.ntmps (getAt F4_code [0, 1, 0, 1, 1, 1, 1, 1]) Q t w := by
  intro Q t w ⟨n, h⟩
  refine (W_loop (P := Try.prog) (b := getAt F4_code [0, 0, 1, 0, 1, 1, 1, 1, 1]) (Q := F4_3C (fun w => ∀ g, rsh [] (upds g []) fun t => Q (.exit 2) t w) (fun y4 w => ∀ g, rsh [(4, (.one .bool))] (upds g [(4, y4)]) fun t => Q .ret t w)) (G := fun n t w => F4_3 (fun w => ∀ g, rsh [] (upds g []) fun t => Q (.exit 2) t w) (fun y4 w => ∀ g, rsh [(4, (.one .bool))] (upds g [(4, y4)]) fun t => Q .ret t w) n (t 0) (t 5) (t 9) w) (fun _ _ h => h) (fun n t w h => ?_) n t w h).mono ?_
  · rw [F4_3_step] at h
    exact vc_sound mixed (orcCons (π := [0, 1, 0, 0, 1, 0, 0, 1, 0, 1, 1, 1, 1, 1]) F4_1_ok (orcNil F4_code)) _ _ rfl (okC_at F4_code_ok [0, 0, 1, 0, 1, 1, 1, 1, 1]) _ _ _ (rsh_out h)
  · intro o t w q
    cases o with
    | normal => exact q.elim
    | exit i =>
      unfold F4_3C at q
      simp only at q
      split at q
      · rename_i hi
        rw [nbeq] at hi
        subst hi
        exact out_ok [] q
      · exact q.elim
    | ret => exact out_ok [4] q
def F4_4C (K0 : Value → Value → World → Prop) : Post := fun o t w => match o with | .normal => False | .exit i => (match Nat.beq i 0 with | true => K0 (t 0) (t 5) w | false => False) | .ret => False
def F4_4B (R : Value → Value → Value → Value → World → Prop) (K0 : Value → Value → World → Prop) (x0 : Value) (x1 : Value) (x5 : Value) (x7 : Value) (w : World) : Prop :=
  rdI .i64 x0 fun n1 => rdC x1 fun l2a l2n l2c => rdP x5 fun p3 => rdI .i64 x7 fun n4 => br (decide ((n4 : Int) < (l2n : Int))) (br (decide ((n4 : Int) < 400)) (F4_2 (fun y0_4 y1_4 y5_4 y7_4 w6 => ∀ _g7 : Tm, rdI .i64 y0_4 fun n8 => rdC y1_4 fun l9a l9n l9c => rdP y5_4 fun p10 => rdI .i64 y7_4 fun n11 => R (.int .i64 n8) (.slice l9a l9n l9c) (.pointer p10) (.int .i64 n11) w6) (.int .i64 n1) (.slice l2a l2n l2c) (.pointer p3) (.int .i64 n4) w) (K0 (.int .i64 n1) (.pointer p3) w)) (K0 (.int .i64 n1) (.pointer p3) w)
def F4_4 (K0 : Value → Value → World → Prop) : Nat → Value → Value → Value → Value → World → Prop
  | 0 => fun _ _ _ _ _ => False
  | n + 1 => F4_4B (F4_4 K0 n) K0
def F4_4O (Q : Post) (t : Tm) (w : World) : Prop := ∃ n, F4_4 (fun y0 y5 w => ∀ g, rsh [(0, (.one (.int .i64))), (5, (.one .ptr))] (upds g [(0, y0), (5, y5)]) fun t => Q (.exit 0) t w) n (t 0) (t 1) (t 5) (t 7) w
theorem F4_4_step (K0 : Value → Value → World → Prop) (n : Nat) (t : Tm) (w : World) : (F4_4 K0 (n + 1) (t 0) (t 1) (t 5) (t 7) w) = rsh [(0, (.one (.int .i64))), (1, (.one .slc)), (5, (.one .ptr)), (7, (.one (.int .i64)))] t (fun t => vc Try.prog (orcOf [([1, 0, 0, 1, 0, 1, 1, 1, 1], F4_2O)]) [0, 0, 1, 0, 1, 1, 1, 1] (getAt F4_code [0, 0, 1, 0, 1, 1, 1, 1]) (fun o t w => match o with | .normal => F4_4 K0 n (t 0) (t 1) (t 5) (t 7) w | .exit i => F4_4C K0 (.exit i) t w | .ret => F4_4C K0 .ret t w) t w) := by kernel_rfl
theorem F4_4_ok : ∀ Q t w, F4_4O Q t w → W Try.prog Try.f4.ntmps (getAt F4_code [0, 1, 0, 1, 1, 1, 1]) Q t w := by
  intro Q t w ⟨n, h⟩
  refine (W_loop (P := Try.prog) (b := getAt F4_code [0, 0, 1, 0, 1, 1, 1, 1]) (Q := F4_4C (fun y0 y5 w => ∀ g, rsh [(0, (.one (.int .i64))), (5, (.one .ptr))] (upds g [(0, y0), (5, y5)]) fun t => Q (.exit 0) t w)) (G := fun n t w => F4_4 (fun y0 y5 w => ∀ g, rsh [(0, (.one (.int .i64))), (5, (.one .ptr))] (upds g [(0, y0), (5, y5)]) fun t => Q (.exit 0) t w) n (t 0) (t 1) (t 5) (t 7) w) (fun _ _ h => h) (fun n t w h => ?_) n t w h).mono ?_
  · rw [F4_4_step] at h
    exact vc_sound mixed (orcCons (π := [1, 0, 0, 1, 0, 1, 1, 1, 1]) F4_2_ok (orcNil F4_code)) _ _ rfl (okC_at F4_code_ok [0, 0, 1, 0, 1, 1, 1, 1]) _ _ _ (rsh_out h)
  · intro o t w q
    cases o with
    | normal => exact q.elim
    | exit i =>
      unfold F4_4C at q
      simp only at q
      split at q
      · rename_i hi
        rw [nbeq] at hi
        subst hi
        exact out_ok [0, 5] q
      · exact q.elim
    | ret => exact q.elim
def F4 (x0 : Value) (x1 : Value) (w : World) (K : Value → World → Prop) : Prop :=
  rdI .i64 x0 fun n1 => rdC x1 fun l2a l2n l2c => Calls Try.prog 7 #[(.int .i64 n1)] w fun e6 w5 => ∃ p3 n4, e6 = .returned (.tuple #[(.pointer p3), (.int .i64 n4)]) ∧ (br (n4 != 0) (br (decide ((n1 : Int) < 1)) (Calls Try.prog 8 #[] w5 fun e9 w8 => ∃ b7, e9 = .returned (.bool b7) ∧ (K (.bool b7) w8)) (br (decide ((n1 : Int) > 8)) (Calls Try.prog 8 #[] w5 fun e12 w11 => ∃ b10, e12 = .returned (.bool b10) ∧ (K (.bool b10) w11)) (K (.bool false) w5))) (br (Option.isNone p3) (K (.bool false) w5) (∃ k29 : Nat, F4_4 (fun y0_12 y5_12 w14 => ∀ _g15 : Tm, rdI .i64 y0_12 fun n16 => rdP y5_12 fun p17 => ∃ k28 : Nat, F4_3 (fun w19 => ∀ _g20 : Tm, Calls Try.prog 8 #[] w19 fun e23 w22 => ∃ b21, e23 = .returned (.bool b21) ∧ (K (.bool b21) w22)) (fun y4_23 w25 => ∀ _g26 : Tm, rdB y4_23 fun b27 => K (.bool b27) w25) k28 (.int .i64 n16) (.pointer p17) (.int .i64 0) w14) k29 (.int .i64 n1) (.slice l2a l2n l2c) (.pointer p3) (.int .i64 0) w5)))
theorem F4_step (x0 : Value) (x1 : Value) (w : World) (K : Value → World → Prop) : (F4 x0 x1 w K) = rsh [(0, (.one (.int .i64))), (1, (.one .slc))] (args0 #[x0, x1]) (fun t => vc Try.prog (orcOf [([0, 1, 0, 0, 1, 0, 0, 1, 0, 1, 1, 1, 1, 1], F4_1O), ([1, 0, 0, 1, 0, 1, 1, 1, 1], F4_2O), ([0, 1, 0, 1, 1, 1, 1, 1], F4_3O), ([0, 1, 0, 1, 1, 1, 1], F4_4O)]) [] F4_code (retQ Try.prog Try.f4 K) t w) := by kernel_rfl
theorem F4_ok {x0 x1 : Value} {w : World} {K : Value → World → Prop} (h : F4 x0 x1 w K) : Calls Try.prog 4 #[x0, x1] w fun e w' => ∃ v, e = .returned v ∧ K v w' := by
  rw [F4_step] at h
  exact calls_of (c := F4_code) mixed Try.func4 rfl (nlt rfl) (vc_sound mixed (orcCons (π := [0, 1, 0, 0, 1, 0, 0, 1, 0, 1, 1, 1, 1, 1]) F4_1_ok (orcCons (π := [1, 0, 0, 1, 0, 1, 1, 1, 1]) F4_2_ok (orcCons (π := [0, 1, 0, 1, 1, 1, 1, 1]) F4_3_ok (orcCons (π := [0, 1, 0, 1, 1, 1, 1]) F4_4_ok (orcNil F4_code))))) F4_code [] rfl F4_code_ok _ _ _ (rsh_out h))

/-! ropewalk/ropewalklaw09.NetRuns -/
noncomputable def F5_code : Code := Try.f5.body.getD .skip
theorem F5_code_ok : okC Try.prog Try.f5.ntmps F5_code = true := by kernel_rfl
def F5_1C (Kn : Value → Value → Value → Value → World → Prop) (Kr : Value → World → Prop) : Post := fun o t w => match o with | .normal => Kn (t 1) (t 5) (t 7) (t 9) w | .exit i => (False) | .ret => Kr (t 4) w
def F5_1 (Kn : Value → Value → Value → Value → World → Prop) (Kr : Value → World → Prop) (x1 : Value) (x5 : Value) (x7 : Value) (x9 : Value) (w : World) : Prop :=
  rdC x1 fun l1a l1n l1c => rdP x5 fun p2 => rdP x7 fun p3 => rdI .i64 x9 fun n4 => ixS 8 l1a l1n n4 fun a5 => ldI .i64 (a5.add 0) w fun n6 => ldI .i64 (a5.add 1) w fun n7 => ldI .i64 (a5.add 2) w fun n8 => ldI .i64 (a5.add 3) w fun n9 => ldI .i64 (a5.add 4) w fun n10 => ldI .i64 (a5.add 5) w fun n11 => ldI .u8 (a5.add 6) w fun n12 => ldC (a5.add 7) w fun l13a l13n l13c => Calls Try.prog 10 #[(.pointer p2), (.pointer p3), (.agg #[(.int .i64 n6), (.int .i64 n7), (.int .i64 n8), (.int .i64 n9), (.int .i64 n10), (.int .i64 n11), (.int .u8 n12), (.slice l13a l13n l13c)])] w fun e16 w15 => ∃ b14, e16 = .returned (.bool b14) ∧ (br (!b14) (Kr (.bool false) w15) (Calls Try.prog 15 #[(.pointer p2), (.pointer p3)] w15 fun e19 w18 => ∃ b17, e19 = .returned (.bool b17) ∧ (br (!b17) (Kr (.bool false) w18) (Kn (.slice l1a l1n l1c) (.pointer p2) (.pointer p3) (.int .i64 (IntKind.wrap .i64 (n4 + 1))) w18))))
def F5_1O (Q : Post) (t : Tm) (w : World) : Prop := F5_1 (fun y1 y5 y7 y9 w => ∀ g, rsh [(1, (.one .slc)), (5, (.one .ptr)), (7, (.one .ptr)), (9, (.one (.int .i64)))] (upds g [(1, y1), (5, y5), (7, y7), (9, y9)]) fun t => Q .normal t w) (fun y4 w => ∀ g, rsh [(4, (.one .bool))] (upds g [(4, y4)]) fun t => Q .ret t w) (t 1) (t 5) (t 7) (t 9) w
theorem F5_1_step (Kn : Value → Value → Value → Value → World → Prop) (Kr : Value → World → Prop) (t : Tm) (w : World) : (F5_1 Kn Kr (t 1) (t 5) (t 7) (t 9) w) = rsh [(1, (.one .slc)), (5, (.one .ptr)), (7, (.one .ptr)), (9, (.one (.int .i64)))] t (fun t => vc Try.prog (orcOf []) [1, 0, 0, 1, 0, 1, 1, 1, 1, 1] (getAt F5_code [1, 0, 0, 1, 0, 1, 1, 1, 1, 1]) (F5_1C Kn Kr) t w) := by kernel_rfl
theorem F5_1_ok : ∀ Q t w, F5_1O Q t w → W Try.prog Try.f5.ntmps (getAt F5_code [1, 0, 0, 1, 0, 1, 1, 1, 1, 1]) Q t w := by
  intro Q t w h
  unfold F5_1O at h
  rw [F5_1_step] at h
  refine (vc_sound mixed (orcNil F5_code) _ _ rfl (okC_at F5_code_ok [1, 0, 0, 1, 0, 1, 1, 1, 1, 1]) _ _ _ (rsh_out h)).mono ?_
  intro o t w q
  cases o with
  | normal => exact out_ok [1, 5, 7, 9] q
  | exit i => exact q.elim
  | ret => exact out_ok [4] q
def F5_2C (K0 : World → Prop) (Kr : Value → World → Prop) : Post := fun o t w => match o with | .normal => False | .exit i => (match Nat.beq i 0 with | true => K0  w | false => False) | .ret => Kr (t 4) w
def F5_2B (R : Value → Value → Value → Value → World → Prop) (K0 : World → Prop) (Kr : Value → World → Prop) (x1 : Value) (x5 : Value) (x7 : Value) (x9 : Value) (w : World) : Prop :=
  rdC x1 fun l1a l1n l1c => rdP x5 fun p2 => rdP x7 fun p3 => rdI .i64 x9 fun n4 => br (decide ((n4 : Int) < (l1n : Int))) (br (decide ((n4 : Int) < 400)) (F5_1 (fun y1_4 y5_4 y7_4 y9_4 w6 => ∀ _g7 : Tm, rdC y1_4 fun l8a l8n l8c => rdP y5_4 fun p9 => rdP y7_4 fun p10 => rdI .i64 y9_4 fun n11 => R (.slice l8a l8n l8c) (.pointer p9) (.pointer p10) (.int .i64 n11) w6) (fun y4_11 w13 => ∀ _g14 : Tm, rdB y4_11 fun b15 => Kr (.bool b15) w13) (.slice l1a l1n l1c) (.pointer p2) (.pointer p3) (.int .i64 n4) w) (K0 w)) (K0 w)
def F5_2 (K0 : World → Prop) (Kr : Value → World → Prop) : Nat → Value → Value → Value → Value → World → Prop
  | 0 => fun _ _ _ _ _ => False
  | n + 1 => F5_2B (F5_2 K0 Kr n) K0 Kr
def F5_2O (Q : Post) (t : Tm) (w : World) : Prop := ∃ n, F5_2 (fun w => ∀ g, rsh [] (upds g []) fun t => Q (.exit 0) t w) (fun y4 w => ∀ g, rsh [(4, (.one .bool))] (upds g [(4, y4)]) fun t => Q .ret t w) n (t 1) (t 5) (t 7) (t 9) w
theorem F5_2_step (K0 : World → Prop) (Kr : Value → World → Prop) (n : Nat) (t : Tm) (w : World) : (F5_2 K0 Kr (n + 1) (t 1) (t 5) (t 7) (t 9) w) = rsh [(1, (.one .slc)), (5, (.one .ptr)), (7, (.one .ptr)), (9, (.one (.int .i64)))] t (fun t => vc Try.prog (orcOf [([1, 0, 0, 1, 0, 1, 1, 1, 1, 1], F5_1O)]) [0, 0, 1, 0, 1, 1, 1, 1, 1] (getAt F5_code [0, 0, 1, 0, 1, 1, 1, 1, 1]) (fun o t w => match o with | .normal => F5_2 K0 Kr n (t 1) (t 5) (t 7) (t 9) w | .exit i => F5_2C K0 Kr (.exit i) t w | .ret => F5_2C K0 Kr .ret t w) t w) := by kernel_rfl
theorem F5_2_ok : ∀ Q t w, F5_2O Q t w → W Try.prog Try.f5.ntmps (getAt F5_code [0, 1, 0, 1, 1, 1, 1, 1]) Q t w := by
  intro Q t w ⟨n, h⟩
  refine (W_loop (P := Try.prog) (b := getAt F5_code [0, 0, 1, 0, 1, 1, 1, 1, 1]) (Q := F5_2C (fun w => ∀ g, rsh [] (upds g []) fun t => Q (.exit 0) t w) (fun y4 w => ∀ g, rsh [(4, (.one .bool))] (upds g [(4, y4)]) fun t => Q .ret t w)) (G := fun n t w => F5_2 (fun w => ∀ g, rsh [] (upds g []) fun t => Q (.exit 0) t w) (fun y4 w => ∀ g, rsh [(4, (.one .bool))] (upds g [(4, y4)]) fun t => Q .ret t w) n (t 1) (t 5) (t 7) (t 9) w) (fun _ _ h => h) (fun n t w h => ?_) n t w h).mono ?_
  · rw [F5_2_step] at h
    exact vc_sound mixed (orcCons (π := [1, 0, 0, 1, 0, 1, 1, 1, 1, 1]) F5_1_ok (orcNil F5_code)) _ _ rfl (okC_at F5_code_ok [0, 0, 1, 0, 1, 1, 1, 1, 1]) _ _ _ (rsh_out h)
  · intro o t w q
    cases o with
    | normal => exact q.elim
    | exit i =>
      unfold F5_2C at q
      simp only at q
      split at q
      · rename_i hi
        rw [nbeq] at hi
        subst hi
        exact out_ok [] q
      · exact q.elim
    | ret => exact out_ok [4] q
def F5_3C (Kr : Value → World → Prop) : Post := fun o t w => match o with | .normal => False | .exit i => (False) | .ret => Kr (t 4) w
def F5_3 (Kr : Value → World → Prop) (x1 : Value) (x5 : Value) (x7 : Value) (w : World) : Prop :=
  rdC x1 fun l1a l1n l1c => rdP x5 fun p2 => rdP x7 fun p3 => br (Option.isNone p3) (Calls Try.prog 8 #[] w fun e6 w5 => ∃ b4, e6 = .returned (.bool b4) ∧ (Kr (.bool b4) w5)) (∃ k17 : Nat, F5_2 (fun w8 => ∀ _g9 : Tm, Calls Try.prog 8 #[] w8 fun e12 w11 => ∃ b10, e12 = .returned (.bool b10) ∧ (Kr (.bool b10) w11)) (fun y4_12 w14 => ∀ _g15 : Tm, rdB y4_12 fun b16 => Kr (.bool b16) w14) k17 (.slice l1a l1n l1c) (.pointer p2) (.pointer p3) (.int .i64 0) w)
def F5_3O (Q : Post) (t : Tm) (w : World) : Prop := F5_3 (fun y4 w => ∀ g, rsh [(4, (.one .bool))] (upds g [(4, y4)]) fun t => Q .ret t w) (t 1) (t 5) (t 7) w
theorem F5_3_step (Kr : Value → World → Prop) (t : Tm) (w : World) : (F5_3 Kr (t 1) (t 5) (t 7) w) = rsh [(1, (.one .slc)), (5, (.one .ptr)), (7, (.one .ptr))] t (fun t => vc Try.prog (orcOf [([1, 0, 0, 1, 0, 1, 1, 1, 1, 1], F5_1O), ([0, 1, 0, 1, 1, 1, 1, 1], F5_2O)]) [1, 1, 1, 1] (getAt F5_code [1, 1, 1, 1]) (F5_3C Kr) t w) := by kernel_rfl
theorem F5_3_ok : ∀ Q t w, F5_3O Q t w → W Try.prog Try.f5.ntmps (getAt F5_code [1, 1, 1, 1]) Q t w := by
  intro Q t w h
  unfold F5_3O at h
  rw [F5_3_step] at h
  refine (vc_sound mixed (orcCons (π := [1, 0, 0, 1, 0, 1, 1, 1, 1, 1]) F5_1_ok (orcCons (π := [0, 1, 0, 1, 1, 1, 1, 1]) F5_2_ok (orcNil F5_code))) _ _ rfl (okC_at F5_code_ok [1, 1, 1, 1]) _ _ _ (rsh_out h)).mono ?_
  intro o t w q
  cases o with
  | normal => exact q.elim
  | exit i => exact q.elim
  | ret => exact out_ok [4] q
def F5 (x0 : Value) (x1 : Value) (w : World) (K : Value → World → Prop) : Prop :=
  rdI .i64 x0 fun n1 => rdC x1 fun l2a l2n l2c => Calls Try.prog 7 #[(.int .i64 n1)] w fun e6 w5 => ∃ p3 n4, e6 = .returned (.tuple #[(.pointer p3), (.int .i64 n4)]) ∧ (Calls Try.prog 14 #[(.int .i64 n1)] w5 fun e10 w9 => ∃ p7 n8, e10 = .returned (.tuple #[(.pointer p7), (.int .i64 n8)]) ∧ (br (n4 != n8) (K (.bool false) w9) (br (!((Option.isNone p3) == (Option.isNone p7))) (K (.bool false) w9) (F5_3 (fun y4_10 w12 => ∀ _g13 : Tm, rdB y4_10 fun b14 => K (.bool b14) w12) (.slice l2a l2n l2c) (.pointer p3) (.pointer p7) w9))))
theorem F5_step (x0 : Value) (x1 : Value) (w : World) (K : Value → World → Prop) : (F5 x0 x1 w K) = rsh [(0, (.one (.int .i64))), (1, (.one .slc))] (args0 #[x0, x1]) (fun t => vc Try.prog (orcOf [([1, 0, 0, 1, 0, 1, 1, 1, 1, 1], F5_1O), ([0, 1, 0, 1, 1, 1, 1, 1], F5_2O), ([1, 1, 1, 1], F5_3O)]) [] F5_code (retQ Try.prog Try.f5 K) t w) := by kernel_rfl
theorem F5_ok {x0 x1 : Value} {w : World} {K : Value → World → Prop} (h : F5 x0 x1 w K) : Calls Try.prog 5 #[x0, x1] w fun e w' => ∃ v, e = .returned v ∧ K v w' := by
  rw [F5_step] at h
  exact calls_of (c := F5_code) mixed Try.func5 rfl (nlt rfl) (vc_sound mixed (orcCons (π := [1, 0, 0, 1, 0, 1, 1, 1, 1, 1]) F5_1_ok (orcCons (π := [0, 1, 0, 1, 1, 1, 1, 1]) F5_2_ok (orcCons (π := [1, 1, 1, 1]) F5_3_ok (orcNil F5_code)))) F5_code [] rfl F5_code_ok _ _ _ (rsh_out h))

/-! ropewalk/ropewalklaw09.NetNobody -/
noncomputable def F6_code : Code := Try.f6.body.getD .skip
theorem F6_code_ok : okC Try.prog Try.f6.ntmps F6_code = true := by kernel_rfl
def F6_1C (K0 : World → Prop) (Kr : Value → World → Prop) : Post := fun o t w => match o with | .normal => False | .exit i => (match Nat.beq i 0 with | true => K0  w | false => False) | .ret => Kr (t 6) w
def F6_1B (R : Value → Value → Value → Value → Value → Value → World → Prop) (K0 : World → Prop) (Kr : Value → World → Prop) (x0 : Value) (x1 : Value) (x2 : Value) (x26 : Value) (x27 : Value) (x28 : Value) (w : World) : Prop :=
  rdI .i64 x0 fun n1 => rdI .i64 x1 fun n2 => rdC x2 fun l3a l3n l3c => rdC x26 fun l4a l4n l4c => rdI .i64 x27 fun n5 => rdI .i64 x28 fun n6 => br (decide ((n6 : Int) < n5)) (ixS 1 l4a l4n n6 fun a7 => ldP a7 w fun p8 => Calls Try.prog 9 #[(.pointer p8), (.int .i64 n1), (.int .i64 n2), (.slice l3a l3n l3c), (.int .i64 0)] w fun e12 w11 => ∃ n9 n10, e12 = .returned (.tuple #[(.int .i64 n9), (.int .i64 n10)]) ∧ (Calls Try.prog 16 #[(.pointer p8), (.int .i64 n1), (.int .i64 n2), (.slice l3a l3n l3c), (.int .i64 0)] w11 fun e16 w15 => ∃ n13 n14, e16 = .returned (.tuple #[(.int .i64 n13), (.int .i64 n14)]) ∧ (Calls Try.prog 11 #[(.pointer p8), (.int .i64 n1), (.int .i64 n2)] w15 fun e20 w19 => ∃ l17a l17n l17c n18, e20 = .returned (.tuple #[(.slice l17a l17n l17c), (.int .i64 n18)]) ∧ (Calls Try.prog 12 #[(.pointer p8), (.int .i64 n1), (.int .i64 n2), (.int .i64 0)] w19 fun e24 w23 => ∃ l21a l21n l21c n22, e24 = .returned (.tuple #[(.slice l21a l21n l21c), (.int .i64 n22)]) ∧ (Calls Try.prog 17 #[(.pointer p8), (.int .i64 n1), (.int .i64 n2), (.int .i64 0)] w23 fun e28 w27 => ∃ n25 n26, e28 = .returned (.tuple #[(.int .i64 n25), (.int .i64 n26)]) ∧ (Calls Try.prog 13 #[(.pointer p8), (.int .i64 n1), (.int .i64 n2)] w27 fun e35 w34 => ∃ n29 n30 n31 n32 n33, e35 = .returned (.tuple #[(.agg #[(.int .i64 n29), (.int .i64 n30), (.int .i64 n31), (.int .i64 n32)]), (.int .i64 n33)]) ∧ (alc (.cells #[(.int .i64 0), (.int .i64 0), (.int .i64 0), (.int .i64 0)] 48) w34 fun b36 w37 => stc ((Addr.mk b36 0 none).add 0) (.int .i64 n29) w37 fun w38 => stc ((Addr.mk b36 0 none).add 1) (.int .i64 n30) w38 fun w39 => stc ((Addr.mk b36 0 none).add 2) (.int .i64 n31) w39 fun w40 => stc ((Addr.mk b36 0 none).add 3) (.int .i64 n32) w40 fun w41 => br (n10 != 4) (Kr (.bool false) w41) (br (n14 != 4) (Kr (.bool false) w41) (br (n18 != 4) (Kr (.bool false) w41) (br (n22 != 4) (Kr (.bool false) w41) (br (n26 != 4) (Kr (.bool false) w41) (br (n33 != 4) (Kr (.bool false) w41) (Calls Try.prog 18 #[(.pointer p8), (.int .i64 n1), (.int .i64 n2), (.int .i64 0)] w41 fun e44 w43 => ∃ n42, e44 = .returned (.int .i64 n42) ∧ (br (n42 != 4) (Kr (.bool false) w43) (Calls Try.prog 19 #[(.pointer p8), (.int .i64 n1), (.int .i64 n2), (.int .i64 0), (.int .i64 0), (.int .u8 1)] w43 fun e47 w46 => ∃ n45, e47 = .returned (.int .i64 n45) ∧ (br (n45 != 4) (Kr (.bool false) w46) (Calls Try.prog 20 #[(.pointer p8), (.int .i64 n2)] w46 fun e50 w49 => ∃ n48, e50 = .returned (.int .i64 n48) ∧ (br (n48 != 4) (Kr (.bool false) w49) (Calls Try.prog 21 #[(.pointer p8), (.int .i64 n2)] w49 fun e53 w52 => ∃ n51, e53 = .returned (.int .i64 n51) ∧ (br (n51 != 4) (Kr (.bool false) w52) (Calls Try.prog 22 #[(.pointer p8), (.int .i64 n2)] w52 fun e56 w55 => ∃ b54, e56 = .returned (.bool b54) ∧ (br b54 (Kr (.bool false) w55) (Calls Try.prog 23 #[(.pointer p8)] w55 fun e59 w58 => ∃ n57, e59 = .returned (.int .i64 n57) ∧ (br (n57 != 0) (Kr (.bool false) w58) (R (.int .i64 n1) (.int .i64 n2) (.slice l3a l3n l3c) (.slice l4a l4n l4c) (.int .i64 n5) (.int .i64 (IntKind.wrap .i64 (n6 + 1))) w58))))))))))))))))))))))))) (K0 w)
def F6_1 (K0 : World → Prop) (Kr : Value → World → Prop) : Nat → Value → Value → Value → Value → Value → Value → World → Prop
  | 0 => fun _ _ _ _ _ _ _ => False
  | n + 1 => F6_1B (F6_1 K0 Kr n) K0 Kr
def F6_1O (Q : Post) (t : Tm) (w : World) : Prop := ∃ n, F6_1 (fun w => ∀ g, rsh [] (upds g []) fun t => Q (.exit 0) t w) (fun y6 w => ∀ g, rsh [(6, (.one .bool))] (upds g [(6, y6)]) fun t => Q .ret t w) n (t 0) (t 1) (t 2) (t 26) (t 27) (t 28) w
theorem F6_1_step (K0 : World → Prop) (Kr : Value → World → Prop) (n : Nat) (t : Tm) (w : World) : (F6_1 K0 Kr (n + 1) (t 0) (t 1) (t 2) (t 26) (t 27) (t 28) w) = rsh [(0, (.one (.int .i64))), (1, (.one (.int .i64))), (2, (.one .slc)), (26, (.one .slc)), (27, (.one (.int .i64))), (28, (.one (.int .i64)))] t (fun t => vc Try.prog (orcOf []) [0, 0, 1, 0, 1, 1] (getAt F6_code [0, 0, 1, 0, 1, 1]) (fun o t w => match o with | .normal => F6_1 K0 Kr n (t 0) (t 1) (t 2) (t 26) (t 27) (t 28) w | .exit i => F6_1C K0 Kr (.exit i) t w | .ret => F6_1C K0 Kr .ret t w) t w) := by kernel_rfl
theorem F6_1_ok : ∀ Q t w, F6_1O Q t w → W Try.prog Try.f6.ntmps (getAt F6_code [0, 1, 0, 1, 1]) Q t w := by
  intro Q t w ⟨n, h⟩
  refine (W_loop (P := Try.prog) (b := getAt F6_code [0, 0, 1, 0, 1, 1]) (Q := F6_1C (fun w => ∀ g, rsh [] (upds g []) fun t => Q (.exit 0) t w) (fun y6 w => ∀ g, rsh [(6, (.one .bool))] (upds g [(6, y6)]) fun t => Q .ret t w)) (G := fun n t w => F6_1 (fun w => ∀ g, rsh [] (upds g []) fun t => Q (.exit 0) t w) (fun y6 w => ∀ g, rsh [(6, (.one .bool))] (upds g [(6, y6)]) fun t => Q .ret t w) n (t 0) (t 1) (t 2) (t 26) (t 27) (t 28) w) (fun _ _ h => h) (fun n t w h => ?_) n t w h).mono ?_
  · rw [F6_1_step] at h
    exact vc_sound mixed (orcNil F6_code) _ _ rfl (okC_at F6_code_ok [0, 0, 1, 0, 1, 1]) _ _ _ (rsh_out h)
  · intro o t w q
    cases o with
    | normal => exact q.elim
    | exit i =>
      unfold F6_1C at q
      simp only at q
      split at q
      · rename_i hi
        rw [nbeq] at hi
        subst hi
        exact out_ok [] q
      · exact q.elim
    | ret => exact out_ok [6] q
def F6 (x0 : Value) (x1 : Value) (x2 : Value) (w : World) (K : Value → World → Prop) : Prop :=
  rdI .i64 x0 fun n1 => rdI .i64 x1 fun n2 => rdC x2 fun l3a l3n l3c => alc (.cells #[(.slice none 0 0), (.slice none 0 0), (.int .i64 0)] 57) w fun b4 w5 => alc (.cells #[(.pointer none), (.pointer (some (Addr.mk b4 0 none)))] 24) w5 fun b6 w7 => ∃ k18 : Nat, F6_1 (fun w9 => ∀ _g10 : Tm, Calls Try.prog 8 #[] w9 fun e13 w12 => ∃ b11, e13 = .returned (.bool b11) ∧ (K (.bool b11) w12)) (fun y6_13 w15 => ∀ _g16 : Tm, rdB y6_13 fun b17 => K (.bool b17) w15) k18 (.int .i64 n1) (.int .i64 n2) (.slice l3a l3n l3c) (.slice (some (Addr.mk b6 0 none)) 2 2) (.int .i64 (2 : Int)) (.int .i64 0) w7
theorem F6_step (x0 : Value) (x1 : Value) (x2 : Value) (w : World) (K : Value → World → Prop) : (F6 x0 x1 x2 w K) = rsh [(0, (.one (.int .i64))), (1, (.one (.int .i64))), (2, (.one .slc))] (args0 #[x0, x1, x2]) (fun t => vc Try.prog (orcOf [([0, 1, 0, 1, 1], F6_1O)]) [] F6_code (retQ Try.prog Try.f6 K) t w) := by kernel_rfl
theorem F6_ok {x0 x1 x2 : Value} {w : World} {K : Value → World → Prop} (h : F6 x0 x1 x2 w K) : Calls Try.prog 6 #[x0, x1, x2] w fun e w' => ∃ v, e = .returned v ∧ K v w' := by
  rw [F6_step] at h
  exact calls_of (c := F6_code) mixed Try.func6 rfl (nlt rfl) (vc_sound mixed (orcCons (π := [0, 1, 0, 1, 1]) F6_1_ok (orcNil F6_code)) F6_code [] rfl F6_code_ok _ _ _ (rsh_out h))

/-! ropewalk/net.New -/
noncomputable def F7_code : Code := Try.f7.body.getD .skip
theorem F7_code_ok : okC Try.prog Try.f7.ntmps F7_code = true := by kernel_rfl
def F7_1C (K0 : Value → World → Prop) : Post := fun o t w => match o with | .normal => False | .exit i => (match Nat.beq i 0 with | true => K0 (t 4) w | false => False) | .ret => False
def F7_1B (R : Value → Value → Value → World → Prop) (K0 : Value → World → Prop) (x4 : Value) (x15 : Value) (x16 : Value) (w : World) : Prop :=
  rdP x4 fun p1 => rdI .i64 x15 fun n2 => rdI .i64 x16 fun n3 => br (decide ((n3 : Int) < n2)) (nn p1 fun a4 => ldC (a4.add 0) w fun l5a l5n l5c => alc (.cells #[(.int .i64 0), (.int .i64 0), (.int .i64 0), (.int .i64 0), (.slice none 0 0)] 69) w fun b6 w7 => alc (.cells #[(.int .i64 0), (.int .i64 0), (.int .i64 0), (.int .i64 0), (.slice none 0 0)] 69) w7 fun b8 w9 => alc (.cells #[(.pointer (some (Addr.mk b6 0 none))), (.pointer (some (Addr.mk b8 0 none)))] 70) w9 fun b10 w11 => ∃ l12a l12n l12c w13, Sem.run Try.prog (Builtin.append_ #[55, 55] 55 #[(.slice l5a l5n l5c), (.slice (some (Addr.mk b10 0 none)) 1 1)]) w11 = .ok (.slice l12a l12n l12c) w13 ∧ (nn p1 fun a14 => stc (a14.add 0) (.slice l12a l12n l12c) w13 fun w15 => R (.pointer p1) (.int .i64 n2) (.int .i64 (IntKind.wrap .i64 (n3 + 1))) w15)) (K0 (.pointer p1) w)
def F7_1 (K0 : Value → World → Prop) : Nat → Value → Value → Value → World → Prop
  | 0 => fun _ _ _ _ => False
  | n + 1 => F7_1B (F7_1 K0 n) K0
def F7_1O (Q : Post) (t : Tm) (w : World) : Prop := ∃ n, F7_1 (fun y4 w => ∀ g, rsh [(4, (.one .ptr))] (upds g [(4, y4)]) fun t => Q (.exit 0) t w) n (t 4) (t 15) (t 16) w
theorem F7_1_step (K0 : Value → World → Prop) (n : Nat) (t : Tm) (w : World) : (F7_1 K0 (n + 1) (t 4) (t 15) (t 16) w) = rsh [(4, (.one .ptr)), (15, (.one (.int .i64))), (16, (.one (.int .i64)))] t (fun t => vc Try.prog (orcOf []) [0, 0, 1, 0, 1, 1, 1] (getAt F7_code [0, 0, 1, 0, 1, 1, 1]) (fun o t w => match o with | .normal => F7_1 K0 n (t 4) (t 15) (t 16) w | .exit i => F7_1C K0 (.exit i) t w | .ret => F7_1C K0 .ret t w) t w) := by kernel_rfl
theorem F7_1_ok : ∀ Q t w, F7_1O Q t w → W Try.prog Try.f7.ntmps (getAt F7_code [0, 1, 0, 1, 1, 1]) Q t w := by
  intro Q t w ⟨n, h⟩
  refine (W_loop (P := Try.prog) (b := getAt F7_code [0, 0, 1, 0, 1, 1, 1]) (Q := F7_1C (fun y4 w => ∀ g, rsh [(4, (.one .ptr))] (upds g [(4, y4)]) fun t => Q (.exit 0) t w)) (G := fun n t w => F7_1 (fun y4 w => ∀ g, rsh [(4, (.one .ptr))] (upds g [(4, y4)]) fun t => Q (.exit 0) t w) n (t 4) (t 15) (t 16) w) (fun _ _ h => h) (fun n t w h => ?_) n t w h).mono ?_
  · rw [F7_1_step] at h
    exact vc_sound mixed (orcNil F7_code) _ _ rfl (okC_at F7_code_ok [0, 0, 1, 0, 1, 1, 1]) _ _ _ (rsh_out h)
  · intro o t w q
    cases o with
    | normal => exact q.elim
    | exit i =>
      unfold F7_1C at q
      simp only at q
      split at q
      · rename_i hi
        rw [nbeq] at hi
        subst hi
        exact out_ok [4] q
      · exact q.elim
    | ret => exact q.elim
def F7_2C (Kr : Value → Value → World → Prop) : Post := fun o t w => match o with | .normal => False | .exit i => (False) | .ret => Kr (t 2) (t 3) w
def F7_2 (Kr : Value → Value → World → Prop) (x0 : Value) (w : World) : Prop :=
  rdI .i64 x0 fun n1 => ∃ l2a l2n l2c w3, Sem.run Try.prog (Instr.makeSlice 36 (.int .i64 n1) (.int .i64 n1)) w = .ok (.slice l2a l2n l2c) w3 ∧ (alc (.cells #[(.slice none 0 0), (.slice l2a l2n l2c), (.int .i64 0)] 57) w3 fun b4 w5 => ∃ k10 : Nat, F7_1 (fun y4_5 w7 => ∀ _g8 : Tm, rdP y4_5 fun p9 => Kr (.pointer p9) (.int .i64 0) w7) k10 (.pointer (some (Addr.mk b4 0 none))) (.int .i64 n1) (.int .i64 0) w5)
def F7_2O (Q : Post) (t : Tm) (w : World) : Prop := F7_2 (fun y2 y3 w => ∀ g, rsh [(2, (.one .ptr)), (3, (.one (.int .i64)))] (upds g [(2, y2), (3, y3)]) fun t => Q .ret t w) (t 0) w
theorem F7_2_step (Kr : Value → Value → World → Prop) (t : Tm) (w : World) : (F7_2 Kr (t 0) w) = rsh [(0, (.one (.int .i64)))] t (fun t => vc Try.prog (orcOf [([0, 1, 0, 1, 1, 1], F7_1O)]) [1, 1] (getAt F7_code [1, 1]) (F7_2C Kr) t w) := by kernel_rfl
theorem F7_2_ok : ∀ Q t w, F7_2O Q t w → W Try.prog Try.f7.ntmps (getAt F7_code [1, 1]) Q t w := by
  intro Q t w h
  unfold F7_2O at h
  rw [F7_2_step] at h
  refine (vc_sound mixed (orcCons (π := [0, 1, 0, 1, 1, 1]) F7_1_ok (orcNil F7_code)) _ _ rfl (okC_at F7_code_ok [1, 1]) _ _ _ (rsh_out h)).mono ?_
  intro o t w q
  cases o with
  | normal => exact q.elim
  | exit i => exact q.elim
  | ret => exact out_ok [2, 3] q
def F7 (x0 : Value) (w : World) (K : Value → World → Prop) : Prop :=
  rdI .i64 x0 fun n1 => br (decide ((n1 : Int) < 1)) (K (.tuple #[(.pointer none), (.int .i64 1)]) w) (br (decide ((n1 : Int) > 8)) (K (.tuple #[(.pointer none), (.int .i64 1)]) w) (F7_2 (fun y2_1 y3_1 w3 => ∀ _g4 : Tm, rdP y2_1 fun p5 => rdI .i64 y3_1 fun n6 => K (.tuple #[(.pointer p5), (.int .i64 n6)]) w3) (.int .i64 n1) w))
theorem F7_step (x0 : Value) (w : World) (K : Value → World → Prop) : (F7 x0 w K) = rsh [(0, (.one (.int .i64)))] (args0 #[x0]) (fun t => vc Try.prog (orcOf [([0, 1, 0, 1, 1, 1], F7_1O), ([1, 1], F7_2O)]) [] F7_code (retQ Try.prog Try.f7 K) t w) := by kernel_rfl
theorem F7_ok {x0 : Value} {w : World} {K : Value → World → Prop} (h : F7 x0 w K) : Calls Try.prog 7 #[x0] w fun e w' => ∃ v, e = .returned v ∧ K v w' := by
  rw [F7_step] at h
  exact calls_of (c := F7_code) mixed Try.func7 rfl (nlt rfl) (vc_sound mixed (orcCons (π := [0, 1, 0, 1, 1, 1]) F7_1_ok (orcCons (π := [1, 1]) F7_2_ok (orcNil F7_code))) F7_code [] rfl F7_code_ok _ _ _ (rsh_out h))

/-! ropewalk/ropewalklaw09.alive -/
noncomputable def F8_code : Code := Try.f8.body.getD .skip
theorem F8_code_ok : okC Try.prog Try.f8.ntmps F8_code = true := by kernel_rfl
def F8_1C (Kr : Value → World → Prop) : Post := fun o t w => match o with | .normal => False | .exit i => (False) | .ret => Kr (t 0) w
def F8_1 (Kr : Value → World → Prop) (x1 : Value) (w : World) : Prop :=
  rdP x1 fun p1 => alc (.cells #[(.int .u8 97)] 5) w fun b2 w3 => ∃ l4a l4n l4c w5, Sem.run Try.prog (convert 23 23 (.slice (some (Addr.mk b2 0 none)) 1 1)) w3 = .ok (.slice l4a l4n l4c) w5 ∧ (Calls Try.prog 9 #[(.pointer p1), (.int .i64 0), (.int .i64 0), (.slice l4a l4n l4c), (.int .i64 5)] w5 fun e9 w8 => ∃ n6 n7, e9 = .returned (.tuple #[(.int .i64 n6), (.int .i64 n7)]) ∧ (alc (.cells #[(.int .u8 98)] 5) w8 fun b10 w11 => ∃ l12a l12n l12c w13, Sem.run Try.prog (convert 23 23 (.slice (some (Addr.mk b10 0 none)) 1 1)) w11 = .ok (.slice l12a l12n l12c) w13 ∧ (Calls Try.prog 9 #[(.pointer p1), (.int .i64 0), (.int .i64 0), (.slice l12a l12n l12c), (.int .i64 6)] w13 fun e17 w16 => ∃ n14 n15, e17 = .returned (.tuple #[(.int .i64 n14), (.int .i64 n15)]) ∧ (Calls Try.prog 12 #[(.pointer p1), (.int .i64 0), (.int .i64 0), (.int .i64 1)] w16 fun e21 w20 => ∃ l18a l18n l18c n19, e21 = .returned (.tuple #[(.slice l18a l18n l18c), (.int .i64 n19)]) ∧ (Calls Try.prog 11 #[(.pointer p1), (.int .i64 0), (.int .i64 0)] w20 fun e25 w24 => ∃ l22a l22n l22c n23, e25 = .returned (.tuple #[(.slice l22a l22n l22c), (.int .i64 n23)]) ∧ (br (n7 == 0) (br (n15 == 0) (br (n19 == 0) (br (n23 == 0) (br (n14 == 1) (∃ s26 w27, Sem.run Try.prog (convert 23 9 (.slice l18a l18n l18c)) w24 = .ok (.string s26) w27 ∧ (br (ByteArray.toList s26 == ByteArray.toList ⟨#[98]⟩) (br ((l22n : Int) == 1) (ixS 4 l22a l22n 0 fun a28 => ldI .i64 (a28.add 0) w27 fun n29 => ldI .i64 (a28.add 1) w27 fun n30 => ldI .i64 (a28.add 2) w27 fun n31 => ldB (a28.add 3) w27 fun b32 => ∃ b33 w34, Sem.run Try.prog (binF Try.prog .eql 43 (.tmp 76) (.tmp 77) (.agg #[(.int .i64 n29), (.int .i64 n30), (.int .i64 n31), (.bool b32)]) (.agg #[(.int .i64 0), (.int .i64 5), (.int .i64 1), (.bool false)])) w27 = .ok (.bool b33) w34 ∧ (Kr (.bool b33) w34)) (Kr (.bool false) w27)) (Kr (.bool false) w27))) (Kr (.bool false) w24)) (Kr (.bool false) w24)) (Kr (.bool false) w24)) (Kr (.bool false) w24)) (Kr (.bool false) w24)))))))
def F8_1O (Q : Post) (t : Tm) (w : World) : Prop := F8_1 (fun y0 w => ∀ g, rsh [(0, (.one .bool))] (upds g [(0, y0)]) fun t => Q .ret t w) (t 1) w
theorem F8_1_step (Kr : Value → World → Prop) (t : Tm) (w : World) : (F8_1 Kr (t 1) w) = rsh [(1, (.one .ptr))] t (fun t => vc Try.prog (orcOf []) [1, 1, 1] (getAt F8_code [1, 1, 1]) (F8_1C Kr) t w) := by kernel_rfl
theorem F8_1_ok : ∀ Q t w, F8_1O Q t w → W Try.prog Try.f8.ntmps (getAt F8_code [1, 1, 1]) Q t w := by
  intro Q t w h
  unfold F8_1O at h
  rw [F8_1_step] at h
  refine (vc_sound mixed (orcNil F8_code) _ _ rfl (okC_at F8_code_ok [1, 1, 1]) _ _ _ (rsh_out h)).mono ?_
  intro o t w q
  cases o with
  | normal => exact q.elim
  | exit i => exact q.elim
  | ret => exact out_ok [0] q
def F8 (w : World) (K : Value → World → Prop) : Prop :=
  Calls Try.prog 7 #[(.int .i64 1)] w fun e4 w3 => ∃ p1 n2, e4 = .returned (.tuple #[(.pointer p1), (.int .i64 n2)]) ∧ (br (n2 != 0) (K (.bool false) w3) (br (Option.isNone p1) (K (.bool false) w3) (F8_1 (fun y0_4 w6 => ∀ _g7 : Tm, rdB y0_4 fun b8 => K (.bool b8) w6) (.pointer p1) w3)))
theorem F8_step (w : World) (K : Value → World → Prop) : (F8  w K) = rsh [] (args0 #[]) (fun t => vc Try.prog (orcOf [([1, 1, 1], F8_1O)]) [] F8_code (retQ Try.prog Try.f8 K) t w) := by kernel_rfl
theorem F8_ok {w : World} {K : Value → World → Prop} (h : F8 w K) : Calls Try.prog 8 #[] w fun e w' => ∃ v, e = .returned v ∧ K v w' := by
  rw [F8_step] at h
  exact calls_of (c := F8_code) mixed Try.func8 rfl (nlt rfl) (vc_sound mixed (orcCons (π := [1, 1, 1]) F8_1_ok (orcNil F8_code)) F8_code [] rfl F8_code_ok _ _ _ (rsh_out h))

/-! (*ropewalk/net.Net).Send -/
noncomputable def F9_code : Code := Try.f9.body.getD .skip
theorem F9_code_ok : okC Try.prog Try.f9.ntmps F9_code = true := by kernel_rfl
def F9 (x0 : Value) (x1 : Value) (x2 : Value) (x3 : Value) (x4 : Value) (w : World) (K : Value → World → Prop) : Prop :=
  rdP x0 fun p1 => rdI .i64 x1 fun n2 => rdI .i64 x2 fun n3 => rdC x3 fun l4a l4n l4c => rdI .i64 x4 fun n5 => Calls Try.prog 24 #[(.pointer p1), (.int .i64 n2), (.int .i64 n3), (.slice l4a l4n l4c), (.int .i64 n5), (.bool false)] w fun e9 w8 => ∃ n6 n7, e9 = .returned (.tuple #[(.int .i64 n6), (.int .i64 n7)]) ∧ (K (.tuple #[(.int .i64 n6), (.int .i64 n7)]) w8)
theorem F9_step (x0 : Value) (x1 : Value) (x2 : Value) (x3 : Value) (x4 : Value) (w : World) (K : Value → World → Prop) : (F9 x0 x1 x2 x3 x4 w K) = rsh [(0, (.one .ptr)), (1, (.one (.int .i64))), (2, (.one (.int .i64))), (3, (.one .slc)), (4, (.one (.int .i64)))] (args0 #[x0, x1, x2, x3, x4]) (fun t => vc Try.prog (orcOf []) [] F9_code (retQ Try.prog Try.f9 K) t w) := by kernel_rfl
theorem F9_ok {x0 x1 x2 x3 x4 : Value} {w : World} {K : Value → World → Prop} (h : F9 x0 x1 x2 x3 x4 w K) : Calls Try.prog 9 #[x0, x1, x2, x3, x4] w fun e w' => ∃ v, e = .returned v ∧ K v w' := by
  rw [F9_step] at h
  exact calls_of (c := F9_code) mixed Try.func9 rfl (nlt rfl) (vc_sound mixed (orcNil F9_code) F9_code [] rfl F9_code_ok _ _ _ (rsh_out h))

/-! ropewalk/ropewalklaw09.act -/
noncomputable def F10_code : Code := Try.f10.body.getD .skip
theorem F10_code_ok : okC Try.prog Try.f10.ntmps F10_code = true := by kernel_rfl
def F10 (x0 : Value) (x1 : Value) (x2 : Value) (w : World) (K : Value → World → Prop) : Prop :=
  rdP x0 fun p1 => rdP x1 fun p2 => ∃ n3 n4 n5 n6 n7 n8 n9 l10a l10n l10c, x2 = (.agg #[(.int .i64 n3), (.int .i64 n4), (.int .i64 n5), (.int .i64 n6), (.int .i64 n7), (.int .i64 n8), (.int .u8 n9), (.slice l10a l10n l10c)]) ∧ (alc (.cells #[(.int .i64 n3), (.int .i64 n4), (.int .i64 n5), (.int .i64 n6), (.int .i64 n7), (.int .i64 n8), (.int .u8 n9), (.slice l10a l10n l10c)] 32) w fun b11 w12 => ldI .i64 ((Addr.mk b11 0 none).add 0) w12 fun n13 => br (n13 == 1) (ldI .i64 ((Addr.mk b11 0 none).add 1) w12 fun n14 => ldI .i64 ((Addr.mk b11 0 none).add 2) w12 fun n15 => ldC ((Addr.mk b11 0 none).add 7) w12 fun l16a l16n l16c => ldI .i64 ((Addr.mk b11 0 none).add 5) w12 fun n17 => Calls Try.prog 9 #[(.pointer p1), (.int .i64 n14), (.int .i64 n15), (.slice l16a l16n l16c), (.int .i64 n17)] w12 fun e21 w20 => ∃ n18 n19, e21 = .returned (.tuple #[(.int .i64 n18), (.int .i64 n19)]) ∧ (ldI .i64 ((Addr.mk b11 0 none).add 1) w20 fun n22 => ldI .i64 ((Addr.mk b11 0 none).add 2) w20 fun n23 => ldC ((Addr.mk b11 0 none).add 7) w20 fun l24a l24n l24c => ldI .i64 ((Addr.mk b11 0 none).add 5) w20 fun n25 => Calls Try.prog 25 #[(.pointer p2), (.int .i64 n22), (.int .i64 n23), (.slice l24a l24n l24c), (.int .i64 n25)] w20 fun e29 w28 => ∃ n26 n27, e29 = .returned (.tuple #[(.int .i64 n26), (.int .i64 n27)]) ∧ (br (n18 == n26) (K (.bool (n19 == n27)) w28) (K (.bool false) w28)))) (br (n13 == 2) (ldI .i64 ((Addr.mk b11 0 none).add 1) w12 fun n30 => ldI .i64 ((Addr.mk b11 0 none).add 2) w12 fun n31 => ldC ((Addr.mk b11 0 none).add 7) w12 fun l32a l32n l32c => ldI .i64 ((Addr.mk b11 0 none).add 5) w12 fun n33 => Calls Try.prog 16 #[(.pointer p1), (.int .i64 n30), (.int .i64 n31), (.slice l32a l32n l32c), (.int .i64 n33)] w12 fun e37 w36 => ∃ n34 n35, e37 = .returned (.tuple #[(.int .i64 n34), (.int .i64 n35)]) ∧ (ldI .i64 ((Addr.mk b11 0 none).add 1) w36 fun n38 => ldI .i64 ((Addr.mk b11 0 none).add 2) w36 fun n39 => ldC ((Addr.mk b11 0 none).add 7) w36 fun l40a l40n l40c => ldI .i64 ((Addr.mk b11 0 none).add 5) w36 fun n41 => Calls Try.prog 26 #[(.pointer p2), (.int .i64 n38), (.int .i64 n39), (.slice l40a l40n l40c), (.int .i64 n41)] w36 fun e45 w44 => ∃ n42 n43, e45 = .returned (.tuple #[(.int .i64 n42), (.int .i64 n43)]) ∧ (br (n34 == n42) (K (.bool (n35 == n43)) w44) (K (.bool false) w44)))) (br (n13 == 3) (ldI .i64 ((Addr.mk b11 0 none).add 1) w12 fun n46 => ldI .i64 ((Addr.mk b11 0 none).add 2) w12 fun n47 => ldI .i64 ((Addr.mk b11 0 none).add 3) w12 fun n48 => Calls Try.prog 12 #[(.pointer p1), (.int .i64 n46), (.int .i64 n47), (.int .i64 n48)] w12 fun e52 w51 => ∃ l49a l49n l49c n50, e52 = .returned (.tuple #[(.slice l49a l49n l49c), (.int .i64 n50)]) ∧ (ldI .i64 ((Addr.mk b11 0 none).add 1) w51 fun n53 => ldI .i64 ((Addr.mk b11 0 none).add 2) w51 fun n54 => ldI .i64 ((Addr.mk b11 0 none).add 3) w51 fun n55 => Calls Try.prog 27 #[(.pointer p2), (.int .i64 n53), (.int .i64 n54), (.int .i64 n55)] w51 fun e59 w58 => ∃ l56a l56n l56c n57, e59 = .returned (.tuple #[(.slice l56a l56n l56c), (.int .i64 n57)]) ∧ (∃ s60 w61, Sem.run Try.prog (convert 23 9 (.slice l49a l49n l49c)) w58 = .ok (.string s60) w61 ∧ (∃ s62 w63, Sem.run Try.prog (convert 23 9 (.slice l56a l56n l56c)) w61 = .ok (.string s62) w63 ∧ (br (ByteArray.toList s60 == ByteArray.toList s62) (K (.bool (n50 == n57)) w63) (K (.bool false) w63)))))) (br (n13 == 4) (drw w12 fun w64 => ∃ w65 : World, Pres w65 w64 ∧ (ldI .i64 ((Addr.mk b11 0 none).add 1) w64 fun n66 => ldI .i64 ((Addr.mk b11 0 none).add 2) w64 fun n67 => ldI .i64 ((Addr.mk b11 0 none).add 3) w64 fun n68 => ldI .i64 ((Addr.mk b11 0 none).add 1) w65 fun n69 => ldI .i64 ((Addr.mk b11 0 none).add 2) w65 fun n70 => ldI .i64 ((Addr.mk b11 0 none).add 3) w65 fun n71 => Calls Try.prog 18 #[(.pointer p1), (.int .i64 n66), (.int .i64 n67), (.int .i64 n68)] w64 fun e74 w73 => ∃ n72, e74 = .returned (.int .i64 n72) ∧ (Pres w65 w73 ∧ (Calls Try.prog 28 #[(.pointer p2), (.int .i64 n69), (.int .i64 n70), (.int .i64 n71)] w73 fun e77 w76 => ∃ n75, e77 = .returned (.int .i64 n75) ∧ (K (.bool (n72 == n75)) w76))))) (br (n13 == 5) (ldI .i64 ((Addr.mk b11 0 none).add 1) w12 fun n78 => ldI .i64 ((Addr.mk b11 0 none).add 2) w12 fun n79 => ldI .i64 ((Addr.mk b11 0 none).add 3) w12 fun n80 => Calls Try.prog 17 #[(.pointer p1), (.int .i64 n78), (.int .i64 n79), (.int .i64 n80)] w12 fun e84 w83 => ∃ n81 n82, e84 = .returned (.tuple #[(.int .i64 n81), (.int .i64 n82)]) ∧ (ldI .i64 ((Addr.mk b11 0 none).add 1) w83 fun n85 => ldI .i64 ((Addr.mk b11 0 none).add 2) w83 fun n86 => ldI .i64 ((Addr.mk b11 0 none).add 3) w83 fun n87 => Calls Try.prog 29 #[(.pointer p2), (.int .i64 n85), (.int .i64 n86), (.int .i64 n87)] w83 fun e91 w90 => ∃ n88 n89, e91 = .returned (.tuple #[(.int .i64 n88), (.int .i64 n89)]) ∧ (br (n81 == n88) (K (.bool (n82 == n89)) w90) (K (.bool false) w90)))) (br (n13 == 6) (drw w12 fun w92 => ∃ w93 : World, Pres w93 w92 ∧ (ldI .i64 ((Addr.mk b11 0 none).add 1) w92 fun n94 => ldI .i64 ((Addr.mk b11 0 none).add 2) w92 fun n95 => ldI .i64 ((Addr.mk b11 0 none).add 3) w92 fun n96 => ldI .i64 ((Addr.mk b11 0 none).add 4) w92 fun n97 => ldI .u8 ((Addr.mk b11 0 none).add 6) w92 fun n98 => ldI .i64 ((Addr.mk b11 0 none).add 1) w93 fun n99 => ldI .i64 ((Addr.mk b11 0 none).add 2) w93 fun n100 => ldI .i64 ((Addr.mk b11 0 none).add 3) w93 fun n101 => ldI .i64 ((Addr.mk b11 0 none).add 4) w93 fun n102 => ldI .u8 ((Addr.mk b11 0 none).add 6) w93 fun n103 => Calls Try.prog 19 #[(.pointer p1), (.int .i64 n94), (.int .i64 n95), (.int .i64 n96), (.int .i64 n97), (.int .u8 n98)] w92 fun e106 w105 => ∃ n104, e106 = .returned (.int .i64 n104) ∧ (Pres w93 w105 ∧ (Calls Try.prog 30 #[(.pointer p2), (.int .i64 n99), (.int .i64 n100), (.int .i64 n101), (.int .i64 n102), (.int .u8 n103)] w105 fun e109 w108 => ∃ n107, e109 = .returned (.int .i64 n107) ∧ (K (.bool (n104 == n107)) w108))))) (br (n13 == 7) (drw w12 fun w110 => ∃ w111 : World, Pres w111 w110 ∧ (ldI .i64 ((Addr.mk b11 0 none).add 2) w110 fun n112 => ldI .i64 ((Addr.mk b11 0 none).add 2) w111 fun n113 => Calls Try.prog 20 #[(.pointer p1), (.int .i64 n112)] w110 fun e116 w115 => ∃ n114, e116 = .returned (.int .i64 n114) ∧ (Pres w111 w115 ∧ (Calls Try.prog 31 #[(.pointer p2), (.int .i64 n113)] w115 fun e119 w118 => ∃ n117, e119 = .returned (.int .i64 n117) ∧ (K (.bool (n114 == n117)) w118))))) (br (n13 == 8) (drw w12 fun w120 => ∃ w121 : World, Pres w121 w120 ∧ (ldI .i64 ((Addr.mk b11 0 none).add 2) w120 fun n122 => ldI .i64 ((Addr.mk b11 0 none).add 2) w121 fun n123 => Calls Try.prog 21 #[(.pointer p1), (.int .i64 n122)] w120 fun e126 w125 => ∃ n124, e126 = .returned (.int .i64 n124) ∧ (Pres w121 w125 ∧ (Calls Try.prog 32 #[(.pointer p2), (.int .i64 n123)] w125 fun e129 w128 => ∃ n127, e129 = .returned (.int .i64 n127) ∧ (K (.bool (n124 == n127)) w128))))) (K (.bool true) w12)))))))))
theorem F10_step (x0 : Value) (x1 : Value) (x2 : Value) (w : World) (K : Value → World → Prop) : (F10 x0 x1 x2 w K) = rsh [(0, (.one .ptr)), (1, (.one .ptr)), (2, (.agg [(.int .i64), (.int .i64), (.int .i64), (.int .i64), (.int .i64), (.int .i64), (.int .u8), .slc]))] (args0 #[x0, x1, x2]) (fun t => vc Try.prog (orcOf []) [] F10_code (retQ Try.prog Try.f10 K) t w) := by kernel_rfl
theorem F10_ok {x0 x1 x2 : Value} {w : World} {K : Value → World → Prop} (h : F10 x0 x1 x2 w K) : Calls Try.prog 10 #[x0, x1, x2] w fun e w' => ∃ v, e = .returned v ∧ K v w' := by
  rw [F10_step] at h
  exact calls_of (c := F10_code) mixed Try.func10 rfl (nlt rfl) (vc_sound mixed (orcNil F10_code) F10_code [] rfl F10_code_ok _ _ _ (rsh_out h))

/-! (*ropewalk/net.Net).Flying -/
noncomputable def F11_code : Code := Try.f11.body.getD .skip
theorem F11_code_ok : okC Try.prog Try.f11.ntmps F11_code = true := by kernel_rfl
def F11_1C (K0 : Value → World → Prop) : Post := fun o t w => match o with | .normal => False | .exit i => (match Nat.beq i 0 with | true => K0 (t 10) w | false => False) | .ret => False
def F11_1B (R : Value → Value → Value → Value → World → Prop) (K0 : Value → World → Prop) (x10 : Value) (x26 : Value) (x27 : Value) (x28 : Value) (w : World) : Prop :=
  rdC x10 fun l1a l1n l1c => rdC x26 fun l2a l2n l2c => rdI .i64 x27 fun n3 => rdI .i64 x28 fun n4 => br (decide ((n4 : Int) < n3)) (ixS 5 l2a l2n n4 fun a5 => ldI .i64 (a5.add 0) w fun n6 => ldI .i64 (a5.add 1) w fun n7 => ldI .i64 (a5.add 2) w fun n8 => ldB (a5.add 3) w fun b9 => ldC (a5.add 4) w fun l10a l10n l10c => alc (.cells #[(.int .i64 0), (.int .i64 0), (.int .i64 0), (.bool false), (.slice none 0 0)] 83) w fun b11 w12 => stc ((Addr.mk b11 0 none).add 0) (.int .i64 n6) w12 fun w13 => stc ((Addr.mk b11 0 none).add 1) (.int .i64 n7) w13 fun w14 => stc ((Addr.mk b11 0 none).add 2) (.int .i64 n8) w14 fun w15 => stc ((Addr.mk b11 0 none).add 3) (.bool b9) w15 fun w16 => stc ((Addr.mk b11 0 none).add 4) (.slice l10a l10n l10c) w16 fun w17 => ldI .i64 (((Addr.mk b11 0 none).add 0).add 0) w17 fun n18 => ldI .i64 (((Addr.mk b11 0 none).add 0).add 1) w17 fun n19 => ldI .i64 (((Addr.mk b11 0 none).add 0).add 2) w17 fun n20 => ldB (((Addr.mk b11 0 none).add 0).add 3) w17 fun b21 => alc (.cells #[(.int .i64 n18), (.int .i64 n19), (.int .i64 n20), (.bool b21)] 43) w17 fun b22 w23 => ∃ l24a l24n l24c w25, Sem.run Try.prog (Builtin.append_ #[39, 39] 39 #[(.slice l1a l1n l1c), (.slice (some (Addr.mk b22 0 none)) 1 1)]) w23 = .ok (.slice l24a l24n l24c) w25 ∧ (R (.slice l24a l24n l24c) (.slice l2a l2n l2c) (.int .i64 n3) (.int .i64 (IntKind.wrap .i64 (n4 + 1))) w25)) (K0 (.slice l1a l1n l1c) w)
def F11_1 (K0 : Value → World → Prop) : Nat → Value → Value → Value → Value → World → Prop
  | 0 => fun _ _ _ _ _ => False
  | n + 1 => F11_1B (F11_1 K0 n) K0
def F11_1O (Q : Post) (t : Tm) (w : World) : Prop := ∃ n, F11_1 (fun y10 w => ∀ g, rsh [(10, (.one .slc))] (upds g [(10, y10)]) fun t => Q (.exit 0) t w) n (t 10) (t 26) (t 27) (t 28) w
theorem F11_1_step (K0 : Value → World → Prop) (n : Nat) (t : Tm) (w : World) : (F11_1 K0 (n + 1) (t 10) (t 26) (t 27) (t 28) w) = rsh [(10, (.one .slc)), (26, (.one .slc)), (27, (.one (.int .i64))), (28, (.one (.int .i64)))] t (fun t => vc Try.prog (orcOf []) [0, 0, 1, 0, 1, 1, 1, 1] (getAt F11_code [0, 0, 1, 0, 1, 1, 1, 1]) (fun o t w => match o with | .normal => F11_1 K0 n (t 10) (t 26) (t 27) (t 28) w | .exit i => F11_1C K0 (.exit i) t w | .ret => F11_1C K0 .ret t w) t w) := by kernel_rfl
theorem F11_1_ok : ∀ Q t w, F11_1O Q t w → W Try.prog Try.f11.ntmps (getAt F11_code [0, 1, 0, 1, 1, 1, 1]) Q t w := by
  intro Q t w ⟨n, h⟩
  refine (W_loop (P := Try.prog) (b := getAt F11_code [0, 0, 1, 0, 1, 1, 1, 1]) (Q := F11_1C (fun y10 w => ∀ g, rsh [(10, (.one .slc))] (upds g [(10, y10)]) fun t => Q (.exit 0) t w)) (G := fun n t w => F11_1 (fun y10 w => ∀ g, rsh [(10, (.one .slc))] (upds g [(10, y10)]) fun t => Q (.exit 0) t w) n (t 10) (t 26) (t 27) (t 28) w) (fun _ _ h => h) (fun n t w h => ?_) n t w h).mono ?_
  · rw [F11_1_step] at h
    exact vc_sound mixed (orcNil F11_code) _ _ rfl (okC_at F11_code_ok [0, 0, 1, 0, 1, 1, 1, 1]) _ _ _ (rsh_out h)
  · intro o t w q
    cases o with
    | normal => exact q.elim
    | exit i =>
      unfold F11_1C at q
      simp only at q
      split at q
      · rename_i hi
        rw [nbeq] at hi
        subst hi
        exact out_ok [10] q
      · exact q.elim
    | ret => exact q.elim
def F11 (x0 : Value) (x1 : Value) (x2 : Value) (w : World) (K : Value → World → Prop) : Prop :=
  rdP x0 fun p1 => rdI .i64 x1 fun n2 => rdI .i64 x2 fun n3 => Calls Try.prog 33 #[(.pointer p1), (.int .i64 n2), (.int .i64 n3)] w fun e7 w6 => ∃ p4 n5, e7 = .returned (.tuple #[(.pointer p4), (.int .i64 n5)]) ∧ (br (n5 != 0) (K (.tuple #[(.slice none 0 0), (.int .i64 n5)]) w6) (nn p4 fun a8 => ldC (a8.add 4) w6 fun l9a l9n l9c => ∃ k14 : Nat, F11_1 (fun y10_9 w11 => ∀ _g12 : Tm, rdC y10_9 fun l13a l13n l13c => K (.tuple #[(.slice l13a l13n l13c), (.int .i64 0)]) w11) k14 (.slice none 0 0) (.slice l9a l9n l9c) (.int .i64 (l9n : Int)) (.int .i64 0) w6))
theorem F11_step (x0 : Value) (x1 : Value) (x2 : Value) (w : World) (K : Value → World → Prop) : (F11 x0 x1 x2 w K) = rsh [(0, (.one .ptr)), (1, (.one (.int .i64))), (2, (.one (.int .i64)))] (args0 #[x0, x1, x2]) (fun t => vc Try.prog (orcOf [([0, 1, 0, 1, 1, 1, 1], F11_1O)]) [] F11_code (retQ Try.prog Try.f11 K) t w) := by kernel_rfl
theorem F11_ok {x0 x1 x2 : Value} {w : World} {K : Value → World → Prop} (h : F11 x0 x1 x2 w K) : Calls Try.prog 11 #[x0, x1, x2] w fun e w' => ∃ v, e = .returned v ∧ K v w' := by
  rw [F11_step] at h
  exact calls_of (c := F11_code) mixed Try.func11 rfl (nlt rfl) (vc_sound mixed (orcCons (π := [0, 1, 0, 1, 1, 1, 1]) F11_1_ok (orcNil F11_code)) F11_code [] rfl F11_code_ok _ _ _ (rsh_out h))

/-! (*ropewalk/net.Net).Deliver -/
noncomputable def F12_code : Code := Try.f12.body.getD .skip
theorem F12_code_ok : okC Try.prog Try.f12.ntmps F12_code = true := by kernel_rfl
def F12 (x0 : Value) (x1 : Value) (x2 : Value) (x3 : Value) (w : World) (K : Value → World → Prop) : Prop :=
  rdP x0 fun p1 => rdI .i64 x1 fun n2 => rdI .i64 x2 fun n3 => rdI .i64 x3 fun n4 => alc (.cells #[(.slice none 0 0)] 23) w fun b5 w6 => Calls Try.prog 34 #[(.pointer p1), (.int .i64 n2), (.int .i64 n3), (.int .i64 n4), (.func (.func 35) #[] #[(.pointer (some (Addr.mk b5 0 none)))])] w6 fun e9 w8 => ∃ n7, e9 = .returned (.int .i64 n7) ∧ (ldC (Addr.mk b5 0 none) w8 fun l10a l10n l10c => K (.tuple #[(.slice l10a l10n l10c), (.int .i64 n7)]) w8)
theorem F12_step (x0 : Value) (x1 : Value) (x2 : Value) (x3 : Value) (w : World) (K : Value → World → Prop) : (F12 x0 x1 x2 x3 w K) = rsh [(0, (.one .ptr)), (1, (.one (.int .i64))), (2, (.one (.int .i64))), (3, (.one (.int .i64)))] (args0 #[x0, x1, x2, x3]) (fun t => vc Try.prog (orcOf []) [] F12_code (retQ Try.prog Try.f12 K) t w) := by kernel_rfl
theorem F12_ok {x0 x1 x2 x3 : Value} {w : World} {K : Value → World → Prop} (h : F12 x0 x1 x2 x3 w K) : Calls Try.prog 12 #[x0, x1, x2, x3] w fun e w' => ∃ v, e = .returned v ∧ K v w' := by
  rw [F12_step] at h
  exact calls_of (c := F12_code) mixed Try.func12 rfl (nlt rfl) (vc_sound mixed (orcNil F12_code) F12_code [] rfl F12_code_ok _ _ _ (rsh_out h))

/-! (*ropewalk/net.Net).Traffic -/
noncomputable def F13_code : Code := Try.f13.body.getD .skip
theorem F13_code_ok : okC Try.prog Try.f13.ntmps F13_code = true := by kernel_rfl
def F13 (x0 : Value) (x1 : Value) (x2 : Value) (w : World) (K : Value → World → Prop) : Prop :=
  rdP x0 fun p1 => rdI .i64 x1 fun n2 => rdI .i64 x2 fun n3 => alc (.cells #[(.int .i64 0), (.int .i64 0), (.int .i64 0), (.int .i64 0)] 48) w fun b4 w5 => Calls Try.prog 33 #[(.pointer p1), (.int .i64 n2), (.int .i64 n3)] w5 fun e9 w8 => ∃ p6 n7, e9 = .returned (.tuple #[(.pointer p6), (.int .i64 n7)]) ∧ (br (n7 != 0) (stc ((Addr.mk b4 0 none).add 0) (.int .i64 0) w8 fun w10 => stc ((Addr.mk b4 0 none).add 1) (.int .i64 0) w10 fun w11 => stc ((Addr.mk b4 0 none).add 2) (.int .i64 0) w11 fun w12 => stc ((Addr.mk b4 0 none).add 3) (.int .i64 0) w12 fun w13 => ldI .i64 ((Addr.mk b4 0 none).add 0) w13 fun n14 => ldI .i64 ((Addr.mk b4 0 none).add 1) w13 fun n15 => ldI .i64 ((Addr.mk b4 0 none).add 2) w13 fun n16 => ldI .i64 ((Addr.mk b4 0 none).add 3) w13 fun n17 => K (.tuple #[(.agg #[(.int .i64 n14), (.int .i64 n15), (.int .i64 n16), (.int .i64 n17)]), (.int .i64 n7)]) w13) (nn p6 fun a18 => ldI .i64 ((a18.add 0).add 0) w8 fun n19 => ldI .i64 ((a18.add 0).add 1) w8 fun n20 => ldI .i64 ((a18.add 0).add 2) w8 fun n21 => ldI .i64 ((a18.add 0).add 3) w8 fun n22 => stc ((Addr.mk b4 0 none).add 0) (.int .i64 n19) w8 fun w23 => stc ((Addr.mk b4 0 none).add 1) (.int .i64 n20) w23 fun w24 => stc ((Addr.mk b4 0 none).add 2) (.int .i64 n21) w24 fun w25 => stc ((Addr.mk b4 0 none).add 3) (.int .i64 n22) w25 fun w26 => ldI .i64 ((Addr.mk b4 0 none).add 0) w26 fun n27 => ldI .i64 ((Addr.mk b4 0 none).add 1) w26 fun n28 => ldI .i64 ((Addr.mk b4 0 none).add 2) w26 fun n29 => ldI .i64 ((Addr.mk b4 0 none).add 3) w26 fun n30 => K (.tuple #[(.agg #[(.int .i64 n27), (.int .i64 n28), (.int .i64 n29), (.int .i64 n30)]), (.int .i64 0)]) w26))
theorem F13_step (x0 : Value) (x1 : Value) (x2 : Value) (w : World) (K : Value → World → Prop) : (F13 x0 x1 x2 w K) = rsh [(0, (.one .ptr)), (1, (.one (.int .i64))), (2, (.one (.int .i64)))] (args0 #[x0, x1, x2]) (fun t => vc Try.prog (orcOf []) [] F13_code (retQ Try.prog Try.f13 K) t w) := by kernel_rfl
theorem F13_ok {x0 x1 x2 : Value} {w : World} {K : Value → World → Prop} (h : F13 x0 x1 x2 w K) : Calls Try.prog 13 #[x0, x1, x2] w fun e w' => ∃ v, e = .returned v ∧ K v w' := by
  rw [F13_step] at h
  exact calls_of (c := F13_code) mixed Try.func13 rfl (nlt rfl) (vc_sound mixed (orcNil F13_code) F13_code [] rfl F13_code_ok _ _ _ (rsh_out h))

/-! ropewalk/ropewalkref09.New -/
noncomputable def F14_code : Code := Try.f14.body.getD .skip
theorem F14_code_ok : okC Try.prog Try.f14.ntmps F14_code = true := by kernel_rfl
def F14_1C (K0 : Value → World → Prop) : Post := fun o t w => match o with | .normal => False | .exit i => (match Nat.beq i 0 with | true => K0 (t 4) w | false => False) | .ret => False
def F14_1B (R : Value → Value → Value → World → Prop) (K0 : Value → World → Prop) (x0 : Value) (x4 : Value) (x5 : Value) (w : World) : Prop :=
  rdI .i64 x0 fun n1 => rdP x4 fun p2 => rdI .i64 x5 fun n3 => br (decide ((n3 : Int) < n1)) (drw w fun w4 => nn p2 fun a5 => ldC (a5.add 0) w4 fun l6a l6n l6c => ∃ l7a l7n l7c w8, Sem.run Try.prog (Instr.makeSlice 87 (.int .i64 2) (.int .i64 2)) w4 = .ok (.slice l7a l7n l7c) w8 ∧ (Pres w4 w8 ∧ (alc (.cells #[(.slice l7a l7n l7c)] 87) w8 fun b9 w10 => Pres w4 w10 ∧ (∃ l11a l11n l11c w12, Sem.run Try.prog (Builtin.append_ #[35, 35] 35 #[(.slice l6a l6n l6c), (.slice (some (Addr.mk b9 0 none)) 1 1)]) w10 = .ok (.slice l11a l11n l11c) w12 ∧ (nn p2 fun a13 => stc (a13.add 0) (.slice l11a l11n l11c) w12 fun w14 => nn p2 fun a15 => ldC (a15.add 1) w14 fun l16a l16n l16c => alc (.cells #[(.bool false)] 4) w14 fun b17 w18 => ∃ l19a l19n l19c w20, Sem.run Try.prog (Builtin.append_ #[36, 36] 36 #[(.slice l16a l16n l16c), (.slice (some (Addr.mk b17 0 none)) 1 1)]) w18 = .ok (.slice l19a l19n l19c) w20 ∧ (nn p2 fun a21 => stc (a21.add 1) (.slice l19a l19n l19c) w20 fun w22 => R (.int .i64 n1) (.pointer p2) (.int .i64 (IntKind.wrap .i64 (n3 + 1))) w22)))))) (K0 (.pointer p2) w)
def F14_1 (K0 : Value → World → Prop) : Nat → Value → Value → Value → World → Prop
  | 0 => fun _ _ _ _ => False
  | n + 1 => F14_1B (F14_1 K0 n) K0
def F14_1O (Q : Post) (t : Tm) (w : World) : Prop := ∃ n, F14_1 (fun y4 w => ∀ g, rsh [(4, (.one .ptr))] (upds g [(4, y4)]) fun t => Q (.exit 0) t w) n (t 0) (t 4) (t 5) w
theorem F14_1_step (K0 : Value → World → Prop) (n : Nat) (t : Tm) (w : World) : (F14_1 K0 (n + 1) (t 0) (t 4) (t 5) w) = rsh [(0, (.one (.int .i64))), (4, (.one .ptr)), (5, (.one (.int .i64)))] t (fun t => vc Try.prog (orcOf []) [0, 0, 1, 0, 1, 1, 1] (getAt F14_code [0, 0, 1, 0, 1, 1, 1]) (fun o t w => match o with | .normal => F14_1 K0 n (t 0) (t 4) (t 5) w | .exit i => F14_1C K0 (.exit i) t w | .ret => F14_1C K0 .ret t w) t w) := by kernel_rfl
theorem F14_1_ok : ∀ Q t w, F14_1O Q t w → W Try.prog Try.f14.ntmps (getAt F14_code [0, 1, 0, 1, 1, 1]) Q t w := by
  intro Q t w ⟨n, h⟩
  refine (W_loop (P := Try.prog) (b := getAt F14_code [0, 0, 1, 0, 1, 1, 1]) (Q := F14_1C (fun y4 w => ∀ g, rsh [(4, (.one .ptr))] (upds g [(4, y4)]) fun t => Q (.exit 0) t w)) (G := fun n t w => F14_1 (fun y4 w => ∀ g, rsh [(4, (.one .ptr))] (upds g [(4, y4)]) fun t => Q (.exit 0) t w) n (t 0) (t 4) (t 5) w) (fun _ _ h => h) (fun n t w h => ?_) n t w h).mono ?_
  · rw [F14_1_step] at h
    exact vc_sound mixed (orcNil F14_code) _ _ rfl (okC_at F14_code_ok [0, 0, 1, 0, 1, 1, 1]) _ _ _ (rsh_out h)
  · intro o t w q
    cases o with
    | normal => exact q.elim
    | exit i =>
      unfold F14_1C at q
      simp only at q
      split at q
      · rename_i hi
        rw [nbeq] at hi
        subst hi
        exact out_ok [4] q
      · exact q.elim
    | ret => exact q.elim
def F14_2C (Kr : Value → Value → World → Prop) : Post := fun o t w => match o with | .normal => False | .exit i => (False) | .ret => Kr (t 2) (t 3) w
def F14_2 (Kr : Value → Value → World → Prop) (x0 : Value) (w : World) : Prop :=
  rdI .i64 x0 fun n1 => alc (.cells #[(.slice none 0 0), (.slice none 0 0), (.int .i64 0)] 38) w fun b2 w3 => ∃ k8 : Nat, F14_1 (fun y4_3 w5 => ∀ _g6 : Tm, rdP y4_3 fun p7 => Kr (.pointer p7) (.int .i64 0) w5) k8 (.int .i64 n1) (.pointer (some (Addr.mk b2 0 none))) (.int .i64 0) w3
def F14_2O (Q : Post) (t : Tm) (w : World) : Prop := F14_2 (fun y2 y3 w => ∀ g, rsh [(2, (.one .ptr)), (3, (.one (.int .i64)))] (upds g [(2, y2), (3, y3)]) fun t => Q .ret t w) (t 0) w
theorem F14_2_step (Kr : Value → Value → World → Prop) (t : Tm) (w : World) : (F14_2 Kr (t 0) w) = rsh [(0, (.one (.int .i64)))] t (fun t => vc Try.prog (orcOf [([0, 1, 0, 1, 1, 1], F14_1O)]) [1, 1] (getAt F14_code [1, 1]) (F14_2C Kr) t w) := by kernel_rfl
theorem F14_2_ok : ∀ Q t w, F14_2O Q t w → W Try.prog Try.f14.ntmps (getAt F14_code [1, 1]) Q t w := by
  intro Q t w h
  unfold F14_2O at h
  rw [F14_2_step] at h
  refine (vc_sound mixed (orcCons (π := [0, 1, 0, 1, 1, 1]) F14_1_ok (orcNil F14_code)) _ _ rfl (okC_at F14_code_ok [1, 1]) _ _ _ (rsh_out h)).mono ?_
  intro o t w q
  cases o with
  | normal => exact q.elim
  | exit i => exact q.elim
  | ret => exact out_ok [2, 3] q
def F14 (x0 : Value) (w : World) (K : Value → World → Prop) : Prop :=
  rdI .i64 x0 fun n1 => br (decide ((n1 : Int) < 1)) (K (.tuple #[(.pointer none), (.int .i64 1)]) w) (br (decide ((n1 : Int) > 8)) (K (.tuple #[(.pointer none), (.int .i64 1)]) w) (F14_2 (fun y2_1 y3_1 w3 => ∀ _g4 : Tm, rdP y2_1 fun p5 => rdI .i64 y3_1 fun n6 => K (.tuple #[(.pointer p5), (.int .i64 n6)]) w3) (.int .i64 n1) w))
theorem F14_step (x0 : Value) (w : World) (K : Value → World → Prop) : (F14 x0 w K) = rsh [(0, (.one (.int .i64)))] (args0 #[x0]) (fun t => vc Try.prog (orcOf [([0, 1, 0, 1, 1, 1], F14_1O), ([1, 1], F14_2O)]) [] F14_code (retQ Try.prog Try.f14 K) t w) := by kernel_rfl
theorem F14_ok {x0 : Value} {w : World} {K : Value → World → Prop} (h : F14 x0 w K) : Calls Try.prog 14 #[x0] w fun e w' => ∃ v, e = .returned v ∧ K v w' := by
  rw [F14_step] at h
  exact calls_of (c := F14_code) mixed Try.func14 rfl (nlt rfl) (vc_sound mixed (orcCons (π := [0, 1, 0, 1, 1, 1]) F14_1_ok (orcCons (π := [1, 1]) F14_2_ok (orcNil F14_code))) F14_code [] rfl F14_code_ok _ _ _ (rsh_out h))

/-! ropewalk/ropewalklaw09.same -/
noncomputable def F15_code : Code := Try.f15.body.getD .skip
theorem F15_code_ok : okC Try.prog Try.f15.ntmps F15_code = true := by kernel_rfl
def F15_1C (K4 : Value → Value → Value → Value → World → Prop) (Kr : Value → World → Prop) : Post := fun o t w => match o with | .normal => False | .exit i => (match Nat.beq i 4 with | true => K4 (t 0) (t 1) (t 5) (t 6) w | false => False) | .ret => Kr (t 4) w
def F15_1B (R : Value → Value → Value → Value → Value → Value → Value → World → Prop) (K4 : Value → Value → Value → Value → World → Prop) (Kr : Value → World → Prop) (x0 : Value) (x1 : Value) (x5 : Value) (x6 : Value) (x7 : Value) (x9 : Value) (x15 : Value) (w : World) : Prop :=
  rdP x0 fun p1 => rdP x1 fun p2 => rdI .i64 x5 fun n3 => rdI .i64 x6 fun n4 => rdC x7 fun l5a l5n l5c => rdC x9 fun l6a l6n l6c => rdI .i64 x15 fun n7 => br (decide ((n7 : Int) < (l5n : Int))) (drw w fun w8 => ixS 4 l5a l5n n7 fun a9 => ldI .i64 (a9.add 0) w8 fun n10 => ldI .i64 (a9.add 1) w8 fun n11 => ldI .i64 (a9.add 2) w8 fun n12 => ldB (a9.add 3) w8 fun b13 => ixS 4 l6a l6n n7 fun a14 => ldI .i64 (a14.add 0) w8 fun n15 => ldI .i64 (a14.add 1) w8 fun n16 => ldI .i64 (a14.add 2) w8 fun n17 => ldB (a14.add 3) w8 fun b18 => ∃ b19 w20, Sem.run Try.prog (binF Try.prog .neq 43 (.tmp 101) (.tmp 105) (.agg #[(.int .i64 n10), (.int .i64 n11), (.int .i64 n12), (.bool b13)]) (.agg #[(.int .i64 n15), (.int .i64 n16), (.int .i64 n17), (.bool b18)])) w8 = .ok (.bool b19) w20 ∧ (br b19 (Kr (.bool false) w20) (R (.pointer p1) (.pointer p2) (.int .i64 n3) (.int .i64 n4) (.slice l5a l5n l5c) (.slice l6a l6n l6c) (.int .i64 (IntKind.wrap .i64 (n7 + 1))) w20))) (K4 (.pointer p1) (.pointer p2) (.int .i64 n3) (.int .i64 n4) w)
def F15_1 (K4 : Value → Value → Value → Value → World → Prop) (Kr : Value → World → Prop) : Nat → Value → Value → Value → Value → Value → Value → Value → World → Prop
  | 0 => fun _ _ _ _ _ _ _ _ => False
  | n + 1 => F15_1B (F15_1 K4 Kr n) K4 Kr
def F15_1O (Q : Post) (t : Tm) (w : World) : Prop := ∃ n, F15_1 (fun y0 y1 y5 y6 w => ∀ g, rsh [(0, (.one .ptr)), (1, (.one .ptr)), (5, (.one (.int .i64))), (6, (.one (.int .i64)))] (upds g [(0, y0), (1, y1), (5, y5), (6, y6)]) fun t => Q (.exit 4) t w) (fun y4 w => ∀ g, rsh [(4, (.one .bool))] (upds g [(4, y4)]) fun t => Q .ret t w) n (t 0) (t 1) (t 5) (t 6) (t 7) (t 9) (t 15) w
theorem F15_1_step (K4 : Value → Value → Value → Value → World → Prop) (Kr : Value → World → Prop) (n : Nat) (t : Tm) (w : World) : (F15_1 K4 Kr (n + 1) (t 0) (t 1) (t 5) (t 6) (t 7) (t 9) (t 15) w) = rsh [(0, (.one .ptr)), (1, (.one .ptr)), (5, (.one (.int .i64))), (6, (.one (.int .i64))), (7, (.one .slc)), (9, (.one .slc)), (15, (.one (.int .i64)))] t (fun t => vc Try.prog (orcOf []) [0, 0, 1, 1, 1, 1, 1, 1, 0, 0, 1, 0, 0, 1, 1, 0, 0, 1, 0, 0, 1, 0, 1, 1] (getAt F15_code [0, 0, 1, 1, 1, 1, 1, 1, 0, 0, 1, 0, 0, 1, 1, 0, 0, 1, 0, 0, 1, 0, 1, 1]) (fun o t w => match o with | .normal => F15_1 K4 Kr n (t 0) (t 1) (t 5) (t 6) (t 7) (t 9) (t 15) w | .exit i => F15_1C K4 Kr (.exit i) t w | .ret => F15_1C K4 Kr .ret t w) t w) := by kernel_rfl
theorem F15_1_ok : ∀ Q t w, F15_1O Q t w → W Try.prog Try.f15.ntmps (getAt F15_code [0, 1, 1, 1, 1, 1, 1, 0, 0, 1, 0, 0, 1, 1, 0, 0, 1, 0, 0, 1, 0, 1, 1]) Q t w := by
  intro Q t w ⟨n, h⟩
  refine (W_loop (P := Try.prog) (b := getAt F15_code [0, 0, 1, 1, 1, 1, 1, 1, 0, 0, 1, 0, 0, 1, 1, 0, 0, 1, 0, 0, 1, 0, 1, 1]) (Q := F15_1C (fun y0 y1 y5 y6 w => ∀ g, rsh [(0, (.one .ptr)), (1, (.one .ptr)), (5, (.one (.int .i64))), (6, (.one (.int .i64)))] (upds g [(0, y0), (1, y1), (5, y5), (6, y6)]) fun t => Q (.exit 4) t w) (fun y4 w => ∀ g, rsh [(4, (.one .bool))] (upds g [(4, y4)]) fun t => Q .ret t w)) (G := fun n t w => F15_1 (fun y0 y1 y5 y6 w => ∀ g, rsh [(0, (.one .ptr)), (1, (.one .ptr)), (5, (.one (.int .i64))), (6, (.one (.int .i64)))] (upds g [(0, y0), (1, y1), (5, y5), (6, y6)]) fun t => Q (.exit 4) t w) (fun y4 w => ∀ g, rsh [(4, (.one .bool))] (upds g [(4, y4)]) fun t => Q .ret t w) n (t 0) (t 1) (t 5) (t 6) (t 7) (t 9) (t 15) w) (fun _ _ h => h) (fun n t w h => ?_) n t w h).mono ?_
  · rw [F15_1_step] at h
    exact vc_sound mixed (orcNil F15_code) _ _ rfl (okC_at F15_code_ok [0, 0, 1, 1, 1, 1, 1, 1, 0, 0, 1, 0, 0, 1, 1, 0, 0, 1, 0, 0, 1, 0, 1, 1]) _ _ _ (rsh_out h)
  · intro o t w q
    cases o with
    | normal => exact q.elim
    | exit i =>
      unfold F15_1C at q
      simp only at q
      split at q
      · rename_i hi
        rw [nbeq] at hi
        subst hi
        exact out_ok [0, 1, 5, 6] q
      · exact q.elim
    | ret => exact out_ok [4] q
def F15_2C (Kn : Value → Value → Value → Value → World → Prop) (Kr : Value → World → Prop) : Post := fun o t w => match o with | .normal => Kn (t 0) (t 1) (t 5) (t 6) w | .exit i => (False) | .ret => Kr (t 4) w
def F15_2 (Kn : Value → Value → Value → Value → World → Prop) (Kr : Value → World → Prop) (x0 : Value) (x1 : Value) (x5 : Value) (x6 : Value) (x7 : Value) (x9 : Value) (w : World) : Prop :=
  rdP x0 fun p1 => rdP x1 fun p2 => rdI .i64 x5 fun n3 => rdI .i64 x6 fun n4 => rdC x7 fun l5a l5n l5c => rdC x9 fun l6a l6n l6c => ∃ k18 : Nat, F15_1 (fun y0_6 y1_6 y5_6 y6_6 w8 => ∀ _g9 : Tm, rdP y0_6 fun p10 => rdP y1_6 fun p11 => rdI .i64 y5_6 fun n12 => rdI .i64 y6_6 fun n13 => Kn (.pointer p10) (.pointer p11) (.int .i64 n12) (.int .i64 n13) w8) (fun y4_13 w15 => ∀ _g16 : Tm, rdB y4_13 fun b17 => Kr (.bool b17) w15) k18 (.pointer p1) (.pointer p2) (.int .i64 n3) (.int .i64 n4) (.slice l5a l5n l5c) (.slice l6a l6n l6c) (.int .i64 0) w
def F15_2O (Q : Post) (t : Tm) (w : World) : Prop := F15_2 (fun y0 y1 y5 y6 w => ∀ g, rsh [(0, (.one .ptr)), (1, (.one .ptr)), (5, (.one (.int .i64))), (6, (.one (.int .i64)))] (upds g [(0, y0), (1, y1), (5, y5), (6, y6)]) fun t => Q .normal t w) (fun y4 w => ∀ g, rsh [(4, (.one .bool))] (upds g [(4, y4)]) fun t => Q .ret t w) (t 0) (t 1) (t 5) (t 6) (t 7) (t 9) w
theorem F15_2_step (Kn : Value → Value → Value → Value → World → Prop) (Kr : Value → World → Prop) (t : Tm) (w : World) : (F15_2 Kn Kr (t 0) (t 1) (t 5) (t 6) (t 7) (t 9) w) = rsh [(0, (.one .ptr)), (1, (.one .ptr)), (5, (.one (.int .i64))), (6, (.one (.int .i64))), (7, (.one .slc)), (9, (.one .slc))] t (fun t => vc Try.prog (orcOf [([0, 1, 1, 1, 1, 1, 1, 0, 0, 1, 0, 0, 1, 1, 0, 0, 1, 0, 0, 1, 0, 1, 1], F15_1O)]) [1, 1, 1, 1, 1, 0, 0, 1, 0, 0, 1, 1, 0, 0, 1, 0, 0, 1, 0, 1, 1] (getAt F15_code [1, 1, 1, 1, 1, 0, 0, 1, 0, 0, 1, 1, 0, 0, 1, 0, 0, 1, 0, 1, 1]) (F15_2C Kn Kr) t w) := by kernel_rfl
theorem F15_2_ok : ∀ Q t w, F15_2O Q t w → W Try.prog Try.f15.ntmps (getAt F15_code [1, 1, 1, 1, 1, 0, 0, 1, 0, 0, 1, 1, 0, 0, 1, 0, 0, 1, 0, 1, 1]) Q t w := by
  intro Q t w h
  unfold F15_2O at h
  rw [F15_2_step] at h
  refine (vc_sound mixed (orcCons (π := [0, 1, 1, 1, 1, 1, 1, 0, 0, 1, 0, 0, 1, 1, 0, 0, 1, 0, 0, 1, 0, 1, 1]) F15_1_ok (orcNil F15_code)) _ _ rfl (okC_at F15_code_ok [1, 1, 1, 1, 1, 0, 0, 1, 0, 0, 1, 1, 0, 0, 1, 0, 0, 1, 0, 1, 1]) _ _ _ (rsh_out h)).mono ?_
  intro o t w q
  cases o with
  | normal => exact out_ok [0, 1, 5, 6] q
  | exit i => exact q.elim
  | ret => exact out_ok [4] q
def F15_3C (K2 : Value → Value → Value → World → Prop) (Kr : Value → World → Prop) : Post := fun o t w => match o with | .normal => False | .exit i => (match Nat.beq i 2 with | true => K2 (t 0) (t 1) (t 5) w | false => False) | .ret => Kr (t 4) w
def F15_3B (R : Value → Value → Value → Value → World → Prop) (K2 : Value → Value → Value → World → Prop) (Kr : Value → World → Prop) (x0 : Value) (x1 : Value) (x5 : Value) (x6 : Value) (w : World) : Prop :=
  rdP x0 fun p1 => rdP x1 fun p2 => rdI .i64 x5 fun n3 => rdI .i64 x6 fun n4 => br (decide ((n4 : Int) < 3)) (Calls Try.prog 11 #[(.pointer p1), (.int .i64 n4), (.int .i64 n3)] w fun e8 w7 => ∃ l5a l5n l5c n6, e8 = .returned (.tuple #[(.slice l5a l5n l5c), (.int .i64 n6)]) ∧ (Calls Try.prog 38 #[(.pointer p2), (.int .i64 n4), (.int .i64 n3)] w7 fun e12 w11 => ∃ l9a l9n l9c n10, e12 = .returned (.tuple #[(.slice l9a l9n l9c), (.int .i64 n10)]) ∧ (Calls Try.prog 13 #[(.pointer p1), (.int .i64 n4), (.int .i64 n3)] w11 fun e19 w18 => ∃ n13 n14 n15 n16 n17, e19 = .returned (.tuple #[(.agg #[(.int .i64 n13), (.int .i64 n14), (.int .i64 n15), (.int .i64 n16)]), (.int .i64 n17)]) ∧ (alc (.cells #[(.int .i64 0), (.int .i64 0), (.int .i64 0), (.int .i64 0)] 48) w18 fun b20 w21 => stc ((Addr.mk b20 0 none).add 0) (.int .i64 n13) w21 fun w22 => stc ((Addr.mk b20 0 none).add 1) (.int .i64 n14) w22 fun w23 => stc ((Addr.mk b20 0 none).add 2) (.int .i64 n15) w23 fun w24 => stc ((Addr.mk b20 0 none).add 3) (.int .i64 n16) w24 fun w25 => Calls Try.prog 39 #[(.pointer p2), (.int .i64 n4), (.int .i64 n3)] w25 fun e32 w31 => ∃ n26 n27 n28 n29 n30, e32 = .returned (.tuple #[(.agg #[(.int .i64 n26), (.int .i64 n27), (.int .i64 n28), (.int .i64 n29)]), (.int .i64 n30)]) ∧ (alc (.cells #[(.int .i64 0), (.int .i64 0), (.int .i64 0), (.int .i64 0)] 48) w31 fun b33 w34 => stc ((Addr.mk b33 0 none).add 0) (.int .i64 n26) w34 fun w35 => stc ((Addr.mk b33 0 none).add 1) (.int .i64 n27) w35 fun w36 => stc ((Addr.mk b33 0 none).add 2) (.int .i64 n28) w36 fun w37 => stc ((Addr.mk b33 0 none).add 3) (.int .i64 n29) w37 fun w38 => br (n6 != n10) (Kr (.bool false) w38) (ldI .i64 ((Addr.mk b20 0 none).add 0) w38 fun n39 => ldI .i64 ((Addr.mk b20 0 none).add 1) w38 fun n40 => ldI .i64 ((Addr.mk b20 0 none).add 2) w38 fun n41 => ldI .i64 ((Addr.mk b20 0 none).add 3) w38 fun n42 => ldI .i64 ((Addr.mk b33 0 none).add 0) w38 fun n43 => ldI .i64 ((Addr.mk b33 0 none).add 1) w38 fun n44 => ldI .i64 ((Addr.mk b33 0 none).add 2) w38 fun n45 => ldI .i64 ((Addr.mk b33 0 none).add 3) w38 fun n46 => ∃ b47 w48, Sem.run Try.prog (binF Try.prog .neq 48 (.tmp 76) (.tmp 77) (.agg #[(.int .i64 n39), (.int .i64 n40), (.int .i64 n41), (.int .i64 n42)]) (.agg #[(.int .i64 n43), (.int .i64 n44), (.int .i64 n45), (.int .i64 n46)])) w38 = .ok (.bool b47) w48 ∧ (br b47 (Kr (.bool false) w48) (br (n17 != n30) (Kr (.bool false) w48) (br ((l5n : Int) != (l9n : Int)) (Kr (.bool false) w48) (F15_2 (fun y0_48 y1_48 y5_48 y6_48 w50 => ∀ _g51 : Tm, rdP y0_48 fun p52 => rdP y1_48 fun p53 => rdI .i64 y5_48 fun n54 => rdI .i64 y6_48 fun n55 => R (.pointer p52) (.pointer p53) (.int .i64 n54) (.int .i64 (IntKind.wrap .i64 (n55 + 1))) w50) (fun y4_55 w57 => ∀ _g58 : Tm, rdB y4_55 fun b59 => Kr (.bool b59) w57) (.pointer p1) (.pointer p2) (.int .i64 n3) (.int .i64 n4) (.slice l5a l5n l5c) (.slice l9a l9n l9c) w48)))))))))) (K2 (.pointer p1) (.pointer p2) (.int .i64 n3) w)
def F15_3 (K2 : Value → Value → Value → World → Prop) (Kr : Value → World → Prop) : Nat → Value → Value → Value → Value → World → Prop
  | 0 => fun _ _ _ _ _ => False
  | n + 1 => F15_3B (F15_3 K2 Kr n) K2 Kr
def F15_3O (Q : Post) (t : Tm) (w : World) : Prop := ∃ n, F15_3 (fun y0 y1 y5 w => ∀ g, rsh [(0, (.one .ptr)), (1, (.one .ptr)), (5, (.one (.int .i64)))] (upds g [(0, y0), (1, y1), (5, y5)]) fun t => Q (.exit 2) t w) (fun y4 w => ∀ g, rsh [(4, (.one .bool))] (upds g [(4, y4)]) fun t => Q .ret t w) n (t 0) (t 1) (t 5) (t 6) w
theorem F15_3_step (K2 : Value → Value → Value → World → Prop) (Kr : Value → World → Prop) (n : Nat) (t : Tm) (w : World) : (F15_3 K2 Kr (n + 1) (t 0) (t 1) (t 5) (t 6) w) = rsh [(0, (.one .ptr)), (1, (.one .ptr)), (5, (.one (.int .i64))), (6, (.one (.int .i64)))] t (fun t => vc Try.prog (orcOf [([0, 1, 1, 1, 1, 1, 1, 0, 0, 1, 0, 0, 1, 1, 0, 0, 1, 0, 0, 1, 0, 1, 1], F15_1O), ([1, 1, 1, 1, 1, 0, 0, 1, 0, 0, 1, 1, 0, 0, 1, 0, 0, 1, 0, 1, 1], F15_2O)]) [0, 0, 1, 1, 0, 0, 1, 0, 0, 1, 0, 1, 1] (getAt F15_code [0, 0, 1, 1, 0, 0, 1, 0, 0, 1, 0, 1, 1]) (fun o t w => match o with | .normal => F15_3 K2 Kr n (t 0) (t 1) (t 5) (t 6) w | .exit i => F15_3C K2 Kr (.exit i) t w | .ret => F15_3C K2 Kr .ret t w) t w) := by kernel_rfl
theorem F15_3_ok : ∀ Q t w, F15_3O Q t w → W Try.prog Try.f15.ntmps (getAt F15_code [0, 1, 1, 0, 0, 1, 0, 0, 1, 0, 1, 1]) Q t w := by
  intro Q t w ⟨n, h⟩
  refine (W_loop (P := Try.prog) (b := getAt F15_code [0, 0, 1, 1, 0, 0, 1, 0, 0, 1, 0, 1, 1]) (Q := F15_3C (fun y0 y1 y5 w => ∀ g, rsh [(0, (.one .ptr)), (1, (.one .ptr)), (5, (.one (.int .i64)))] (upds g [(0, y0), (1, y1), (5, y5)]) fun t => Q (.exit 2) t w) (fun y4 w => ∀ g, rsh [(4, (.one .bool))] (upds g [(4, y4)]) fun t => Q .ret t w)) (G := fun n t w => F15_3 (fun y0 y1 y5 w => ∀ g, rsh [(0, (.one .ptr)), (1, (.one .ptr)), (5, (.one (.int .i64)))] (upds g [(0, y0), (1, y1), (5, y5)]) fun t => Q (.exit 2) t w) (fun y4 w => ∀ g, rsh [(4, (.one .bool))] (upds g [(4, y4)]) fun t => Q .ret t w) n (t 0) (t 1) (t 5) (t 6) w) (fun _ _ h => h) (fun n t w h => ?_) n t w h).mono ?_
  · rw [F15_3_step] at h
    exact vc_sound mixed (orcCons (π := [0, 1, 1, 1, 1, 1, 1, 0, 0, 1, 0, 0, 1, 1, 0, 0, 1, 0, 0, 1, 0, 1, 1]) F15_1_ok (orcCons (π := [1, 1, 1, 1, 1, 0, 0, 1, 0, 0, 1, 1, 0, 0, 1, 0, 0, 1, 0, 1, 1]) F15_2_ok (orcNil F15_code))) _ _ rfl (okC_at F15_code_ok [0, 0, 1, 1, 0, 0, 1, 0, 0, 1, 0, 1, 1]) _ _ _ (rsh_out h)
  · intro o t w q
    cases o with
    | normal => exact q.elim
    | exit i =>
      unfold F15_3C at q
      simp only at q
      split at q
      · rename_i hi
        rw [nbeq] at hi
        subst hi
        exact out_ok [0, 1, 5] q
      · exact q.elim
    | ret => exact out_ok [4] q
def F15_4C (K0 : World → Prop) (Kr : Value → World → Prop) : Post := fun o t w => match o with | .normal => False | .exit i => (match Nat.beq i 0 with | true => K0  w | false => False) | .ret => Kr (t 4) w
def F15_4B (R : Value → Value → Value → World → Prop) (K0 : World → Prop) (Kr : Value → World → Prop) (x0 : Value) (x1 : Value) (x5 : Value) (w : World) : Prop :=
  rdP x0 fun p1 => rdP x1 fun p2 => rdI .i64 x5 fun n3 => nn p2 fun a4 => ldC (a4.add 0) w fun l5a l5n l5c => br (decide ((n3 : Int) ≤ (l5n : Int))) (Calls Try.prog 22 #[(.pointer p1), (.int .i64 n3)] w fun e8 w7 => ∃ b6, e8 = .returned (.bool b6) ∧ (Calls Try.prog 37 #[(.pointer p2), (.int .i64 n3)] w7 fun e11 w10 => ∃ b9, e11 = .returned (.bool b9) ∧ (br (!(b6 == b9)) (Kr (.bool false) w10) (∃ k22 : Nat, F15_3 (fun y0_11 y1_11 y5_11 w13 => ∀ _g14 : Tm, rdP y0_11 fun p15 => rdP y1_11 fun p16 => rdI .i64 y5_11 fun n17 => R (.pointer p15) (.pointer p16) (.int .i64 (IntKind.wrap .i64 (n17 + 1))) w13) (fun y4_17 w19 => ∀ _g20 : Tm, rdB y4_17 fun b21 => Kr (.bool b21) w19) k22 (.pointer p1) (.pointer p2) (.int .i64 n3) (.int .i64 0) w10)))) (K0 w)
def F15_4 (K0 : World → Prop) (Kr : Value → World → Prop) : Nat → Value → Value → Value → World → Prop
  | 0 => fun _ _ _ _ => False
  | n + 1 => F15_4B (F15_4 K0 Kr n) K0 Kr
def F15_4O (Q : Post) (t : Tm) (w : World) : Prop := ∃ n, F15_4 (fun w => ∀ g, rsh [] (upds g []) fun t => Q (.exit 0) t w) (fun y4 w => ∀ g, rsh [(4, (.one .bool))] (upds g [(4, y4)]) fun t => Q .ret t w) n (t 0) (t 1) (t 5) w
theorem F15_4_step (K0 : World → Prop) (Kr : Value → World → Prop) (n : Nat) (t : Tm) (w : World) : (F15_4 K0 Kr (n + 1) (t 0) (t 1) (t 5) w) = rsh [(0, (.one .ptr)), (1, (.one .ptr)), (5, (.one (.int .i64)))] t (fun t => vc Try.prog (orcOf [([0, 1, 1, 1, 1, 1, 1, 0, 0, 1, 0, 0, 1, 1, 0, 0, 1, 0, 0, 1, 0, 1, 1], F15_1O), ([1, 1, 1, 1, 1, 0, 0, 1, 0, 0, 1, 1, 0, 0, 1, 0, 0, 1, 0, 1, 1], F15_2O), ([0, 1, 1, 0, 0, 1, 0, 0, 1, 0, 1, 1], F15_3O)]) [0, 0, 1, 0, 1, 1] (getAt F15_code [0, 0, 1, 0, 1, 1]) (fun o t w => match o with | .normal => F15_4 K0 Kr n (t 0) (t 1) (t 5) w | .exit i => F15_4C K0 Kr (.exit i) t w | .ret => F15_4C K0 Kr .ret t w) t w) := by kernel_rfl
theorem F15_4_ok : ∀ Q t w, F15_4O Q t w → W Try.prog Try.f15.ntmps (getAt F15_code [0, 1, 0, 1, 1]) Q t w := by
  intro Q t w ⟨n, h⟩
  refine (W_loop (P := Try.prog) (b := getAt F15_code [0, 0, 1, 0, 1, 1]) (Q := F15_4C (fun w => ∀ g, rsh [] (upds g []) fun t => Q (.exit 0) t w) (fun y4 w => ∀ g, rsh [(4, (.one .bool))] (upds g [(4, y4)]) fun t => Q .ret t w)) (G := fun n t w => F15_4 (fun w => ∀ g, rsh [] (upds g []) fun t => Q (.exit 0) t w) (fun y4 w => ∀ g, rsh [(4, (.one .bool))] (upds g [(4, y4)]) fun t => Q .ret t w) n (t 0) (t 1) (t 5) w) (fun _ _ h => h) (fun n t w h => ?_) n t w h).mono ?_
  · rw [F15_4_step] at h
    exact vc_sound mixed (orcCons (π := [0, 1, 1, 1, 1, 1, 1, 0, 0, 1, 0, 0, 1, 1, 0, 0, 1, 0, 0, 1, 0, 1, 1]) F15_1_ok (orcCons (π := [1, 1, 1, 1, 1, 0, 0, 1, 0, 0, 1, 1, 0, 0, 1, 0, 0, 1, 0, 1, 1]) F15_2_ok (orcCons (π := [0, 1, 1, 0, 0, 1, 0, 0, 1, 0, 1, 1]) F15_3_ok (orcNil F15_code)))) _ _ rfl (okC_at F15_code_ok [0, 0, 1, 0, 1, 1]) _ _ _ (rsh_out h)
  · intro o t w q
    cases o with
    | normal => exact q.elim
    | exit i =>
      unfold F15_4C at q
      simp only at q
      split at q
      · rename_i hi
        rw [nbeq] at hi
        subst hi
        exact out_ok [] q
      · exact q.elim
    | ret => exact out_ok [4] q
def F15 (x0 : Value) (x1 : Value) (w : World) (K : Value → World → Prop) : Prop :=
  rdP x0 fun p1 => rdP x1 fun p2 => drw w fun w3 => ∃ w4 : World, Pres w4 w3 ∧ (nn p2 fun a5 => ldC (a5.add 0) w4 fun l6a l6n l6c => Calls Try.prog 23 #[(.pointer p1)] w3 fun e9 w8 => ∃ n7, e9 = .returned (.int .i64 n7) ∧ (Pres w4 w8 ∧ (br (n7 != (l6n : Int)) (K (.bool false) w8) (∃ k17 : Nat, F15_4 (fun w11 => ∀ _g12 : Tm, K (.bool true) w11) (fun y4_12 w14 => ∀ _g15 : Tm, rdB y4_12 fun b16 => K (.bool b16) w14) k17 (.pointer p1) (.pointer p2) (.int .i64 (-1)) w8))))
theorem F15_step (x0 : Value) (x1 : Value) (w : World) (K : Value → World → Prop) : (F15 x0 x1 w K) = rsh [(0, (.one .ptr)), (1, (.one .ptr))] (args0 #[x0, x1]) (fun t => vc Try.prog (orcOf [([0, 1, 1, 1, 1, 1, 1, 0, 0, 1, 0, 0, 1, 1, 0, 0, 1, 0, 0, 1, 0, 1, 1], F15_1O), ([1, 1, 1, 1, 1, 0, 0, 1, 0, 0, 1, 1, 0, 0, 1, 0, 0, 1, 0, 1, 1], F15_2O), ([0, 1, 1, 0, 0, 1, 0, 0, 1, 0, 1, 1], F15_3O), ([0, 1, 0, 1, 1], F15_4O)]) [] F15_code (retQ Try.prog Try.f15 K) t w) := by kernel_rfl
theorem F15_ok {x0 x1 : Value} {w : World} {K : Value → World → Prop} (h : F15 x0 x1 w K) : Calls Try.prog 15 #[x0, x1] w fun e w' => ∃ v, e = .returned v ∧ K v w' := by
  rw [F15_step] at h
  exact calls_of (c := F15_code) mixed Try.func15 rfl (nlt rfl) (vc_sound mixed (orcCons (π := [0, 1, 1, 1, 1, 1, 1, 0, 0, 1, 0, 0, 1, 1, 0, 0, 1, 0, 0, 1, 0, 1, 1]) F15_1_ok (orcCons (π := [1, 1, 1, 1, 1, 0, 0, 1, 0, 0, 1, 1, 0, 0, 1, 0, 0, 1, 0, 1, 1]) F15_2_ok (orcCons (π := [0, 1, 1, 0, 0, 1, 0, 0, 1, 0, 1, 1]) F15_3_ok (orcCons (π := [0, 1, 0, 1, 1]) F15_4_ok (orcNil F15_code))))) F15_code [] rfl F15_code_ok _ _ _ (rsh_out h))

/-! (*ropewalk/net.Net).Forge -/
noncomputable def F16_code : Code := Try.f16.body.getD .skip
theorem F16_code_ok : okC Try.prog Try.f16.ntmps F16_code = true := by kernel_rfl
def F16 (x0 : Value) (x1 : Value) (x2 : Value) (x3 : Value) (x4 : Value) (w : World) (K : Value → World → Prop) : Prop :=
  rdP x0 fun p1 => rdI .i64 x1 fun n2 => rdI .i64 x2 fun n3 => rdC x3 fun l4a l4n l4c => rdI .i64 x4 fun n5 => Calls Try.prog 24 #[(.pointer p1), (.int .i64 n2), (.int .i64 n3), (.slice l4a l4n l4c), (.int .i64 n5), (.bool true)] w fun e9 w8 => ∃ n6 n7, e9 = .returned (.tuple #[(.int .i64 n6), (.int .i64 n7)]) ∧ (K (.tuple #[(.int .i64 n6), (.int .i64 n7)]) w8)
theorem F16_step (x0 : Value) (x1 : Value) (x2 : Value) (x3 : Value) (x4 : Value) (w : World) (K : Value → World → Prop) : (F16 x0 x1 x2 x3 x4 w K) = rsh [(0, (.one .ptr)), (1, (.one (.int .i64))), (2, (.one (.int .i64))), (3, (.one .slc)), (4, (.one (.int .i64)))] (args0 #[x0, x1, x2, x3, x4]) (fun t => vc Try.prog (orcOf []) [] F16_code (retQ Try.prog Try.f16 K) t w) := by kernel_rfl
theorem F16_ok {x0 x1 x2 x3 x4 : Value} {w : World} {K : Value → World → Prop} (h : F16 x0 x1 x2 x3 x4 w K) : Calls Try.prog 16 #[x0, x1, x2, x3, x4] w fun e w' => ∃ v, e = .returned v ∧ K v w' := by
  rw [F16_step] at h
  exact calls_of (c := F16_code) mixed Try.func16 rfl (nlt rfl) (vc_sound mixed (orcNil F16_code) F16_code [] rfl F16_code_ok _ _ _ (rsh_out h))

/-! (*ropewalk/net.Net).Twice -/
noncomputable def F17_code : Code := Try.f17.body.getD .skip
theorem F17_code_ok : okC Try.prog Try.f17.ntmps F17_code = true := by kernel_rfl
def F17 (x0 : Value) (x1 : Value) (x2 : Value) (x3 : Value) (w : World) (K : Value → World → Prop) : Prop :=
  rdP x0 fun p1 => rdI .i64 x1 fun n2 => rdI .i64 x2 fun n3 => rdI .i64 x3 fun n4 => alc (.cells #[(.int .i64 0)] 3) w fun b5 w6 => alc (.cells #[(.bool false)] 4) w6 fun b7 w8 => stc (Addr.mk b5 0 none) (.int .i64 0) w8 fun w9 => stc (Addr.mk b7 0 none) (.bool false) w9 fun w10 => Calls Try.prog 34 #[(.pointer p1), (.int .i64 n2), (.int .i64 n3), (.int .i64 n4), (.func (.func 40) #[] #[(.pointer (some (Addr.mk b7 0 none))), (.pointer (some (Addr.mk b5 0 none)))])] w10 fun e13 w12 => ∃ n11, e13 = .returned (.int .i64 n11) ∧ (ldB (Addr.mk b7 0 none) w12 fun b14 => br b14 (K (.tuple #[(.int .i64 0), (.int .i64 3)]) w12) (ldI .i64 (Addr.mk b5 0 none) w12 fun n15 => K (.tuple #[(.int .i64 n15), (.int .i64 n11)]) w12))
theorem F17_step (x0 : Value) (x1 : Value) (x2 : Value) (x3 : Value) (w : World) (K : Value → World → Prop) : (F17 x0 x1 x2 x3 w K) = rsh [(0, (.one .ptr)), (1, (.one (.int .i64))), (2, (.one (.int .i64))), (3, (.one (.int .i64)))] (args0 #[x0, x1, x2, x3]) (fun t => vc Try.prog (orcOf []) [] F17_code (retQ Try.prog Try.f17 K) t w) := by kernel_rfl
theorem F17_ok {x0 x1 x2 x3 : Value} {w : World} {K : Value → World → Prop} (h : F17 x0 x1 x2 x3 w K) : Calls Try.prog 17 #[x0, x1, x2, x3] w fun e w' => ∃ v, e = .returned v ∧ K v w' := by
  rw [F17_step] at h
  exact calls_of (c := F17_code) mixed Try.func17 rfl (nlt rfl) (vc_sound mixed (orcNil F17_code) F17_code [] rfl F17_code_ok _ _ _ (rsh_out h))

/-! (*ropewalk/net.Net).Drop -/
noncomputable def F18_code : Code := Try.f18.body.getD .skip
theorem F18_code_ok : okC Try.prog Try.f18.ntmps F18_code = true := by kernel_rfl
def F18 (x0 : Value) (x1 : Value) (x2 : Value) (x3 : Value) (w : World) (K : Value → World → Prop) : Prop :=
  rdP x0 fun p1 => rdI .i64 x1 fun n2 => rdI .i64 x2 fun n3 => rdI .i64 x3 fun n4 => Calls Try.prog 34 #[(.pointer p1), (.int .i64 n2), (.int .i64 n3), (.int .i64 n4), (.func (.func 42) #[] #[])] w fun e7 w6 => ∃ n5, e7 = .returned (.int .i64 n5) ∧ (K (.int .i64 n5) w6)
theorem F18_step (x0 : Value) (x1 : Value) (x2 : Value) (x3 : Value) (w : World) (K : Value → World → Prop) : (F18 x0 x1 x2 x3 w K) = rsh [(0, (.one .ptr)), (1, (.one (.int .i64))), (2, (.one (.int .i64))), (3, (.one (.int .i64)))] (args0 #[x0, x1, x2, x3]) (fun t => vc Try.prog (orcOf []) [] F18_code (retQ Try.prog Try.f18 K) t w) := by kernel_rfl
theorem F18_ok {x0 x1 x2 x3 : Value} {w : World} {K : Value → World → Prop} (h : F18 x0 x1 x2 x3 w K) : Calls Try.prog 18 #[x0, x1, x2, x3] w fun e w' => ∃ v, e = .returned v ∧ K v w' := by
  rw [F18_step] at h
  exact calls_of (c := F18_code) mixed Try.func18 rfl (nlt rfl) (vc_sound mixed (orcNil F18_code) F18_code [] rfl F18_code_ok _ _ _ (rsh_out h))

/-! (*ropewalk/net.Net).Spoil -/
noncomputable def F19_code : Code := Try.f19.body.getD .skip
theorem F19_code_ok : okC Try.prog Try.f19.ntmps F19_code = true := by kernel_rfl
def F19 (x0 : Value) (x1 : Value) (x2 : Value) (x3 : Value) (x4 : Value) (x5 : Value) (w : World) (K : Value → World → Prop) : Prop :=
  rdP x0 fun p1 => rdI .i64 x1 fun n2 => rdI .i64 x2 fun n3 => rdI .i64 x3 fun n4 => rdI .i64 x4 fun n5 => rdI .u8 x5 fun n6 => alc (.cells #[(.int .i64 n5)] 3) w fun b7 w8 => alc (.cells #[(.int .u8 n6)] 5) w8 fun b9 w10 => alc (.cells #[(.bool false)] 4) w10 fun b11 w12 => stc (Addr.mk b11 0 none) (.bool true) w12 fun w13 => Calls Try.prog 34 #[(.pointer p1), (.int .i64 n2), (.int .i64 n3), (.int .i64 n4), (.func (.func 43) #[] #[(.pointer (some (Addr.mk b7 0 none))), (.pointer (some (Addr.mk b11 0 none))), (.pointer (some (Addr.mk b9 0 none)))])] w13 fun e16 w15 => ∃ n14, e16 = .returned (.int .i64 n14) ∧ (ldB (Addr.mk b11 0 none) w15 fun b17 => br (!b17) (K (.int .i64 92) w15) (K (.int .i64 n14) w15))
theorem F19_step (x0 : Value) (x1 : Value) (x2 : Value) (x3 : Value) (x4 : Value) (x5 : Value) (w : World) (K : Value → World → Prop) : (F19 x0 x1 x2 x3 x4 x5 w K) = rsh [(0, (.one .ptr)), (1, (.one (.int .i64))), (2, (.one (.int .i64))), (3, (.one (.int .i64))), (4, (.one (.int .i64))), (5, (.one (.int .u8)))] (args0 #[x0, x1, x2, x3, x4, x5]) (fun t => vc Try.prog (orcOf []) [] F19_code (retQ Try.prog Try.f19 K) t w) := by kernel_rfl
theorem F19_ok {x0 x1 x2 x3 x4 x5 : Value} {w : World} {K : Value → World → Prop} (h : F19 x0 x1 x2 x3 x4 x5 w K) : Calls Try.prog 19 #[x0, x1, x2, x3, x4, x5] w fun e w' => ∃ v, e = .returned v ∧ K v w' := by
  rw [F19_step] at h
  exact calls_of (c := F19_code) mixed Try.func19 rfl (nlt rfl) (vc_sound mixed (orcNil F19_code) F19_code [] rfl F19_code_ok _ _ _ (rsh_out h))

/-! (*ropewalk/net.Net).Down -/
noncomputable def F20_code : Code := Try.f20.body.getD .skip
theorem F20_code_ok : okC Try.prog Try.f20.ntmps F20_code = true := by kernel_rfl
def F20 (x0 : Value) (x1 : Value) (w : World) (K : Value → World → Prop) : Prop :=
  rdP x0 fun p1 => rdI .i64 x1 fun n2 => Calls Try.prog 44 #[(.pointer p1), (.int .i64 n2), (.bool true)] w fun e5 w4 => ∃ n3, e5 = .returned (.int .i64 n3) ∧ (K (.int .i64 n3) w4)
theorem F20_step (x0 : Value) (x1 : Value) (w : World) (K : Value → World → Prop) : (F20 x0 x1 w K) = rsh [(0, (.one .ptr)), (1, (.one (.int .i64)))] (args0 #[x0, x1]) (fun t => vc Try.prog (orcOf []) [] F20_code (retQ Try.prog Try.f20 K) t w) := by kernel_rfl
theorem F20_ok {x0 x1 : Value} {w : World} {K : Value → World → Prop} (h : F20 x0 x1 w K) : Calls Try.prog 20 #[x0, x1] w fun e w' => ∃ v, e = .returned v ∧ K v w' := by
  rw [F20_step] at h
  exact calls_of (c := F20_code) mixed Try.func20 rfl (nlt rfl) (vc_sound mixed (orcNil F20_code) F20_code [] rfl F20_code_ok _ _ _ (rsh_out h))

/-! (*ropewalk/net.Net).Up -/
noncomputable def F21_code : Code := Try.f21.body.getD .skip
theorem F21_code_ok : okC Try.prog Try.f21.ntmps F21_code = true := by kernel_rfl
def F21 (x0 : Value) (x1 : Value) (w : World) (K : Value → World → Prop) : Prop :=
  rdP x0 fun p1 => rdI .i64 x1 fun n2 => Calls Try.prog 44 #[(.pointer p1), (.int .i64 n2), (.bool false)] w fun e5 w4 => ∃ n3, e5 = .returned (.int .i64 n3) ∧ (K (.int .i64 n3) w4)
theorem F21_step (x0 : Value) (x1 : Value) (w : World) (K : Value → World → Prop) : (F21 x0 x1 w K) = rsh [(0, (.one .ptr)), (1, (.one (.int .i64)))] (args0 #[x0, x1]) (fun t => vc Try.prog (orcOf []) [] F21_code (retQ Try.prog Try.f21 K) t w) := by kernel_rfl
theorem F21_ok {x0 x1 : Value} {w : World} {K : Value → World → Prop} (h : F21 x0 x1 w K) : Calls Try.prog 21 #[x0, x1] w fun e w' => ∃ v, e = .returned v ∧ K v w' := by
  rw [F21_step] at h
  exact calls_of (c := F21_code) mixed Try.func21 rfl (nlt rfl) (vc_sound mixed (orcNil F21_code) F21_code [] rfl F21_code_ok _ _ _ (rsh_out h))

/-! (*ropewalk/net.Net).Works -/
noncomputable def F22_code : Code := Try.f22.body.getD .skip
theorem F22_code_ok : okC Try.prog Try.f22.ntmps F22_code = true := by kernel_rfl
def F22 (x0 : Value) (x1 : Value) (w : World) (K : Value → World → Prop) : Prop :=
  rdP x0 fun p1 => rdI .i64 x1 fun n2 => Calls Try.prog 33 #[(.pointer p1), (.int .i64 0), (.int .i64 n2)] w fun e6 w5 => ∃ p3 n4, e6 = .returned (.tuple #[(.pointer p3), (.int .i64 n4)]) ∧ (br (n4 == 0) (nn p1 fun a7 => ldC (a7.add 1) w5 fun l8a l8n l8c => ixS 1 l8a l8n n2 fun a9 => ldB a9 w5 fun b10 => K (.bool (!b10)) w5) (K (.bool false) w5))
theorem F22_step (x0 : Value) (x1 : Value) (w : World) (K : Value → World → Prop) : (F22 x0 x1 w K) = rsh [(0, (.one .ptr)), (1, (.one (.int .i64)))] (args0 #[x0, x1]) (fun t => vc Try.prog (orcOf []) [] F22_code (retQ Try.prog Try.f22 K) t w) := by kernel_rfl
theorem F22_ok {x0 x1 : Value} {w : World} {K : Value → World → Prop} (h : F22 x0 x1 w K) : Calls Try.prog 22 #[x0, x1] w fun e w' => ∃ v, e = .returned v ∧ K v w' := by
  rw [F22_step] at h
  exact calls_of (c := F22_code) mixed Try.func22 rfl (nlt rfl) (vc_sound mixed (orcNil F22_code) F22_code [] rfl F22_code_ok _ _ _ (rsh_out h))

/-! (*ropewalk/net.Net).Paths -/
noncomputable def F23_code : Code := Try.f23.body.getD .skip
theorem F23_code_ok : okC Try.prog Try.f23.ntmps F23_code = true := by kernel_rfl
def F23 (x0 : Value) (w : World) (K : Value → World → Prop) : Prop :=
  rdP x0 fun p1 => br (Option.isNone p1) (K (.int .i64 0) w) (nn p1 fun a2 => ldC (a2.add 0) w fun l3a l3n l3c => K (.int .i64 (l3n : Int)) w)
theorem F23_step (x0 : Value) (w : World) (K : Value → World → Prop) : (F23 x0 w K) = rsh [(0, (.one .ptr))] (args0 #[x0]) (fun t => vc Try.prog (orcOf []) [] F23_code (retQ Try.prog Try.f23 K) t w) := by kernel_rfl
theorem F23_ok {x0 : Value} {w : World} {K : Value → World → Prop} (h : F23 x0 w K) : Calls Try.prog 23 #[x0] w fun e w' => ∃ v, e = .returned v ∧ K v w' := by
  rw [F23_step] at h
  exact calls_of (c := F23_code) mixed Try.func23 rfl (nlt rfl) (vc_sound mixed (orcNil F23_code) F23_code [] rfl F23_code_ok _ _ _ (rsh_out h))

/-! (*ropewalk/net.Net).enter -/
noncomputable def F24_code : Code := Try.f24.body.getD .skip
theorem F24_code_ok : okC Try.prog Try.f24.ntmps F24_code = true := by kernel_rfl
def F24_1C (Kn : Value → Value → Value → Value → Value → Value → World → Prop) (Kr : Value → Value → World → Prop) : Post := fun o t w => match o with | .normal => Kn (t 0) (t 2) (t 3) (t 4) (t 5) (t 14) w | .exit i => (False) | .ret => Kr (t 12) (t 13) w
def F24_1 (Kn : Value → Value → Value → Value → Value → Value → World → Prop) (Kr : Value → Value → World → Prop) (x0 : Value) (x2 : Value) (x3 : Value) (x4 : Value) (x5 : Value) (x14 : Value) (x28 : Value) (w : World) : Prop :=
  rdP x0 fun p1 => rdI .i64 x2 fun n2 => rdC x3 fun l3a l3n l3c => rdI .i64 x4 fun n4 => rdB x5 fun b5 => rdP x14 fun p6 => rdB x28 fun b7 => br b7 (Kr (.int .i64 0) (.int .i64 1) w) (br (decide (((l3n : Int) : Int) > 65536)) (Kr (.int .i64 0) (.int .i64 2) w) (nn p6 fun a8 => ldC (a8.add 4) w fun l9a l9n l9c => br (decide (((l9n : Int) : Int) ≥ 4096)) (Kr (.int .i64 0) (.int .i64 3) w) (Kn (.pointer p1) (.int .i64 n2) (.slice l3a l3n l3c) (.int .i64 n4) (.bool b5) (.pointer p6) w)))
def F24_1O (Q : Post) (t : Tm) (w : World) : Prop := F24_1 (fun y0 y2 y3 y4 y5 y14 w => ∀ g, rsh [(0, (.one .ptr)), (2, (.one (.int .i64))), (3, (.one .slc)), (4, (.one (.int .i64))), (5, (.one .bool)), (14, (.one .ptr))] (upds g [(0, y0), (2, y2), (3, y3), (4, y4), (5, y5), (14, y14)]) fun t => Q .normal t w) (fun y12 y13 w => ∀ g, rsh [(12, (.one (.int .i64))), (13, (.one (.int .i64)))] (upds g [(12, y12), (13, y13)]) fun t => Q .ret t w) (t 0) (t 2) (t 3) (t 4) (t 5) (t 14) (t 28) w
theorem F24_1_step (Kn : Value → Value → Value → Value → Value → Value → World → Prop) (Kr : Value → Value → World → Prop) (t : Tm) (w : World) : (F24_1 Kn Kr (t 0) (t 2) (t 3) (t 4) (t 5) (t 14) (t 28) w) = rsh [(0, (.one .ptr)), (2, (.one (.int .i64))), (3, (.one .slc)), (4, (.one (.int .i64))), (5, (.one .bool)), (14, (.one .ptr)), (28, (.one .bool))] t (fun t => vc Try.prog (orcOf []) [1, 1, 1, 0, 0, 1, 1] (getAt F24_code [1, 1, 1, 0, 0, 1, 1]) (F24_1C Kn Kr) t w) := by kernel_rfl
theorem F24_1_ok : ∀ Q t w, F24_1O Q t w → W Try.prog Try.f24.ntmps (getAt F24_code [1, 1, 1, 0, 0, 1, 1]) Q t w := by
  intro Q t w h
  unfold F24_1O at h
  rw [F24_1_step] at h
  refine (vc_sound mixed (orcNil F24_code) _ _ rfl (okC_at F24_code_ok [1, 1, 1, 0, 0, 1, 1]) _ _ _ (rsh_out h)).mono ?_
  intro o t w q
  cases o with
  | normal => exact out_ok [0, 2, 3, 4, 5, 14] q
  | exit i => exact q.elim
  | ret => exact out_ok [12, 13] q
def F24_2C (Kr : Value → Value → World → Prop) : Post := fun o t w => match o with | .normal => False | .exit i => (False) | .ret => Kr (t 12) (t 13) w
def F24_2 (Kr : Value → Value → World → Prop) (x0 : Value) (x2 : Value) (x3 : Value) (x4 : Value) (x5 : Value) (x14 : Value) (x16 : Value) (w : World) : Prop :=
  rdP x0 fun p1 => rdI .i64 x2 fun n2 => rdC x3 fun l3a l3n l3c => rdI .i64 x4 fun n4 => rdB x5 fun b5 => rdP x14 fun p6 => rdI .i64 x16 fun n7 => drw w fun w8 => ∃ w9 : World, Pres w9 w8 ∧ (nn p1 fun a10 => ldC (a10.add 1) w9 fun l11a l11n l11c => ixS 1 l11a l11n n2 fun a12 => ldB a12 w9 fun b13 => Calls Try.prog 41 #[(.slice l3a l3n l3c)] w8 fun e16 w15 => ∃ l14a l14n l14c, e16 = .returned (.slice l14a l14n l14c) ∧ (Pres w9 w15 ∧ (Calls Try.prog 45 #[(.pointer p6), (.agg #[(.int .i64 n7), (.int .i64 n4), (.int .i64 (l3n : Int)), (.bool b5), (.slice l14a l14n l14c)]), (.bool (!b13))] w15 fun e18 w17 => e18 = .returned (.tuple #[]) ∧ (Kr (.int .i64 n7) (.int .i64 0) w17))))
def F24_2O (Q : Post) (t : Tm) (w : World) : Prop := F24_2 (fun y12 y13 w => ∀ g, rsh [(12, (.one (.int .i64))), (13, (.one (.int .i64)))] (upds g [(12, y12), (13, y13)]) fun t => Q .ret t w) (t 0) (t 2) (t 3) (t 4) (t 5) (t 14) (t 16) w
theorem F24_2_step (Kr : Value → Value → World → Prop) (t : Tm) (w : World) : (F24_2 Kr (t 0) (t 2) (t 3) (t 4) (t 5) (t 14) (t 16) w) = rsh [(0, (.one .ptr)), (2, (.one (.int .i64))), (3, (.one .slc)), (4, (.one (.int .i64))), (5, (.one .bool)), (14, (.one .ptr)), (16, (.one (.int .i64)))] t (fun t => vc Try.prog (orcOf []) [1, 1, 1, 1, 1, 1] (getAt F24_code [1, 1, 1, 1, 1, 1]) (F24_2C Kr) t w) := by kernel_rfl
theorem F24_2_ok : ∀ Q t w, F24_2O Q t w → W Try.prog Try.f24.ntmps (getAt F24_code [1, 1, 1, 1, 1, 1]) Q t w := by
  intro Q t w h
  unfold F24_2O at h
  rw [F24_2_step] at h
  refine (vc_sound mixed (orcNil F24_code) _ _ rfl (okC_at F24_code_ok [1, 1, 1, 1, 1, 1]) _ _ _ (rsh_out h)).mono ?_
  intro o t w q
  cases o with
  | normal => exact q.elim
  | exit i => exact q.elim
  | ret => exact out_ok [12, 13] q
def F24 (x0 : Value) (x1 : Value) (x2 : Value) (x3 : Value) (x4 : Value) (x5 : Value) (w : World) (K : Value → World → Prop) : Prop :=
  rdP x0 fun p1 => rdI .i64 x1 fun n2 => rdI .i64 x2 fun n3 => rdC x3 fun l4a l4n l4c => rdI .i64 x4 fun n5 => rdB x5 fun b6 => Calls Try.prog 33 #[(.pointer p1), (.int .i64 n2), (.int .i64 n3)] w fun e10 w9 => ∃ p7 n8, e10 = .returned (.tuple #[(.pointer p7), (.int .i64 n8)]) ∧ (br (n8 != 0) (K (.tuple #[(.int .i64 0), (.int .i64 n8)]) w9) (br (decide ((n5 : Int) < 0)) (F24_1 (fun y0_10 y2_10 y3_10 y4_10 y5_10 y14_10 w12 => ∀ _g13 : Tm, rdP y0_10 fun p14 => rdI .i64 y2_10 fun n15 => rdC y3_10 fun l16a l16n l16c => rdI .i64 y4_10 fun n17 => rdB y5_10 fun b18 => rdP y14_10 fun p19 => nn p14 fun a20 => ldI .i64 (a20.add 2) w12 fun n21 => nn p14 fun a22 => ldI .i64 (a22.add 2) w12 fun n23 => nn p14 fun a24 => stc (a24.add 2) (.int .i64 (IntKind.wrap .i64 (n23 + 1))) w12 fun w25 => br b18 (nn p19 fun a26 => ldI .i64 ((a26.add 0).add 3) w25 fun n27 => nn p19 fun a28 => stc ((a28.add 0).add 3) (.int .i64 (IntKind.wrap .i64 (n27 + 1))) w25 fun w29 => F24_2 (fun y12_29 y13_29 w31 => ∀ _g32 : Tm, rdI .i64 y12_29 fun n33 => rdI .i64 y13_29 fun n34 => K (.tuple #[(.int .i64 n33), (.int .i64 n34)]) w31) (.pointer p14) (.int .i64 n15) (.slice l16a l16n l16c) (.int .i64 n17) (.bool b18) (.pointer p19) (.int .i64 n21) w29) (nn p19 fun a35 => ldI .i64 ((a35.add 0).add 0) w25 fun n36 => nn p19 fun a37 => stc ((a37.add 0).add 0) (.int .i64 (IntKind.wrap .i64 (n36 + 1))) w25 fun w38 => F24_2 (fun y12_38 y13_38 w40 => ∀ _g41 : Tm, rdI .i64 y12_38 fun n42 => rdI .i64 y13_38 fun n43 => K (.tuple #[(.int .i64 n42), (.int .i64 n43)]) w40) (.pointer p14) (.int .i64 n15) (.slice l16a l16n l16c) (.int .i64 n17) (.bool b18) (.pointer p19) (.int .i64 n21) w38)) (fun y12_43 y13_43 w45 => ∀ _g46 : Tm, rdI .i64 y12_43 fun n47 => rdI .i64 y13_43 fun n48 => K (.tuple #[(.int .i64 n47), (.int .i64 n48)]) w45) (.pointer p1) (.int .i64 n3) (.slice l4a l4n l4c) (.int .i64 n5) (.bool b6) (.pointer p7) (.bool true) w9) (F24_1 (fun y0_48 y2_48 y3_48 y4_48 y5_48 y14_48 w50 => ∀ _g51 : Tm, rdP y0_48 fun p52 => rdI .i64 y2_48 fun n53 => rdC y3_48 fun l54a l54n l54c => rdI .i64 y4_48 fun n55 => rdB y5_48 fun b56 => rdP y14_48 fun p57 => nn p52 fun a58 => ldI .i64 (a58.add 2) w50 fun n59 => nn p52 fun a60 => ldI .i64 (a60.add 2) w50 fun n61 => nn p52 fun a62 => stc (a62.add 2) (.int .i64 (IntKind.wrap .i64 (n61 + 1))) w50 fun w63 => br b56 (nn p57 fun a64 => ldI .i64 ((a64.add 0).add 3) w63 fun n65 => nn p57 fun a66 => stc ((a66.add 0).add 3) (.int .i64 (IntKind.wrap .i64 (n65 + 1))) w63 fun w67 => F24_2 (fun y12_67 y13_67 w69 => ∀ _g70 : Tm, rdI .i64 y12_67 fun n71 => rdI .i64 y13_67 fun n72 => K (.tuple #[(.int .i64 n71), (.int .i64 n72)]) w69) (.pointer p52) (.int .i64 n53) (.slice l54a l54n l54c) (.int .i64 n55) (.bool b56) (.pointer p57) (.int .i64 n59) w67) (nn p57 fun a73 => ldI .i64 ((a73.add 0).add 0) w63 fun n74 => nn p57 fun a75 => stc ((a75.add 0).add 0) (.int .i64 (IntKind.wrap .i64 (n74 + 1))) w63 fun w76 => F24_2 (fun y12_76 y13_76 w78 => ∀ _g79 : Tm, rdI .i64 y12_76 fun n80 => rdI .i64 y13_76 fun n81 => K (.tuple #[(.int .i64 n80), (.int .i64 n81)]) w78) (.pointer p52) (.int .i64 n53) (.slice l54a l54n l54c) (.int .i64 n55) (.bool b56) (.pointer p57) (.int .i64 n59) w76)) (fun y12_81 y13_81 w83 => ∀ _g84 : Tm, rdI .i64 y12_81 fun n85 => rdI .i64 y13_81 fun n86 => K (.tuple #[(.int .i64 n85), (.int .i64 n86)]) w83) (.pointer p1) (.int .i64 n3) (.slice l4a l4n l4c) (.int .i64 n5) (.bool b6) (.pointer p7) (.bool (decide ((n5 : Int) > 1099511627776))) w9)))
theorem F24_step (x0 : Value) (x1 : Value) (x2 : Value) (x3 : Value) (x4 : Value) (x5 : Value) (w : World) (K : Value → World → Prop) : (F24 x0 x1 x2 x3 x4 x5 w K) = rsh [(0, (.one .ptr)), (1, (.one (.int .i64))), (2, (.one (.int .i64))), (3, (.one .slc)), (4, (.one (.int .i64))), (5, (.one .bool))] (args0 #[x0, x1, x2, x3, x4, x5]) (fun t => vc Try.prog (orcOf [([1, 1, 1, 0, 0, 1, 1], F24_1O), ([1, 1, 1, 1, 1, 1], F24_2O)]) [] F24_code (retQ Try.prog Try.f24 K) t w) := by kernel_rfl
theorem F24_ok {x0 x1 x2 x3 x4 x5 : Value} {w : World} {K : Value → World → Prop} (h : F24 x0 x1 x2 x3 x4 x5 w K) : Calls Try.prog 24 #[x0, x1, x2, x3, x4, x5] w fun e w' => ∃ v, e = .returned v ∧ K v w' := by
  rw [F24_step] at h
  exact calls_of (c := F24_code) mixed Try.func24 rfl (nlt rfl) (vc_sound mixed (orcCons (π := [1, 1, 1, 0, 0, 1, 1]) F24_1_ok (orcCons (π := [1, 1, 1, 1, 1, 1]) F24_2_ok (orcNil F24_code))) F24_code [] rfl F24_code_ok _ _ _ (rsh_out h))

/-! (*ropewalk/ropewalkref09.Net).Send -/
noncomputable def F25_code : Code := Try.f25.body.getD .skip
theorem F25_code_ok : okC Try.prog Try.f25.ntmps F25_code = true := by kernel_rfl
def F25 (x0 : Value) (x1 : Value) (x2 : Value) (x3 : Value) (x4 : Value) (w : World) (K : Value → World → Prop) : Prop :=
  rdP x0 fun p1 => rdI .i64 x1 fun n2 => rdI .i64 x2 fun n3 => rdC x3 fun l4a l4n l4c => rdI .i64 x4 fun n5 => Calls Try.prog 46 #[(.pointer p1), (.int .i64 n2), (.int .i64 n3), (.slice l4a l4n l4c), (.int .i64 n5), (.bool false)] w fun e9 w8 => ∃ n6 n7, e9 = .returned (.tuple #[(.int .i64 n6), (.int .i64 n7)]) ∧ (K (.tuple #[(.int .i64 n6), (.int .i64 n7)]) w8)
theorem F25_step (x0 : Value) (x1 : Value) (x2 : Value) (x3 : Value) (x4 : Value) (w : World) (K : Value → World → Prop) : (F25 x0 x1 x2 x3 x4 w K) = rsh [(0, (.one .ptr)), (1, (.one (.int .i64))), (2, (.one (.int .i64))), (3, (.one .slc)), (4, (.one (.int .i64)))] (args0 #[x0, x1, x2, x3, x4]) (fun t => vc Try.prog (orcOf []) [] F25_code (retQ Try.prog Try.f25 K) t w) := by kernel_rfl
theorem F25_ok {x0 x1 x2 x3 x4 : Value} {w : World} {K : Value → World → Prop} (h : F25 x0 x1 x2 x3 x4 w K) : Calls Try.prog 25 #[x0, x1, x2, x3, x4] w fun e w' => ∃ v, e = .returned v ∧ K v w' := by
  rw [F25_step] at h
  exact calls_of (c := F25_code) mixed Try.func25 rfl (nlt rfl) (vc_sound mixed (orcNil F25_code) F25_code [] rfl F25_code_ok _ _ _ (rsh_out h))

/-! (*ropewalk/ropewalkref09.Net).Forge -/
noncomputable def F26_code : Code := Try.f26.body.getD .skip
theorem F26_code_ok : okC Try.prog Try.f26.ntmps F26_code = true := by kernel_rfl
def F26 (x0 : Value) (x1 : Value) (x2 : Value) (x3 : Value) (x4 : Value) (w : World) (K : Value → World → Prop) : Prop :=
  rdP x0 fun p1 => rdI .i64 x1 fun n2 => rdI .i64 x2 fun n3 => rdC x3 fun l4a l4n l4c => rdI .i64 x4 fun n5 => Calls Try.prog 46 #[(.pointer p1), (.int .i64 n2), (.int .i64 n3), (.slice l4a l4n l4c), (.int .i64 n5), (.bool true)] w fun e9 w8 => ∃ n6 n7, e9 = .returned (.tuple #[(.int .i64 n6), (.int .i64 n7)]) ∧ (K (.tuple #[(.int .i64 n6), (.int .i64 n7)]) w8)
theorem F26_step (x0 : Value) (x1 : Value) (x2 : Value) (x3 : Value) (x4 : Value) (w : World) (K : Value → World → Prop) : (F26 x0 x1 x2 x3 x4 w K) = rsh [(0, (.one .ptr)), (1, (.one (.int .i64))), (2, (.one (.int .i64))), (3, (.one .slc)), (4, (.one (.int .i64)))] (args0 #[x0, x1, x2, x3, x4]) (fun t => vc Try.prog (orcOf []) [] F26_code (retQ Try.prog Try.f26 K) t w) := by kernel_rfl
theorem F26_ok {x0 x1 x2 x3 x4 : Value} {w : World} {K : Value → World → Prop} (h : F26 x0 x1 x2 x3 x4 w K) : Calls Try.prog 26 #[x0, x1, x2, x3, x4] w fun e w' => ∃ v, e = .returned v ∧ K v w' := by
  rw [F26_step] at h
  exact calls_of (c := F26_code) mixed Try.func26 rfl (nlt rfl) (vc_sound mixed (orcNil F26_code) F26_code [] rfl F26_code_ok _ _ _ (rsh_out h))

/-! (*ropewalk/ropewalkref09.Net).Deliver -/
noncomputable def F27_code : Code := Try.f27.body.getD .skip
theorem F27_code_ok : okC Try.prog Try.f27.ntmps F27_code = true := by kernel_rfl
def F27 (x0 : Value) (x1 : Value) (x2 : Value) (x3 : Value) (w : World) (K : Value → World → Prop) : Prop :=
  rdP x0 fun p1 => rdI .i64 x1 fun n2 => rdI .i64 x2 fun n3 => rdI .i64 x3 fun n4 => Calls Try.prog 47 #[(.pointer p1), (.int .i64 n2), (.int .i64 n3), (.int .i64 n4)] w fun e7 w6 => ∃ n5, e7 = .returned (.int .i64 n5) ∧ (br (n5 != 0) (K (.tuple #[(.slice none 0 0), (.int .i64 n5)]) w6) (nn p1 fun a8 => ldC (a8.add 0) w6 fun l9a l9n l9c => ixS 1 l9a l9n n3 fun a10 => ldC a10 w6 fun l11a l11n l11c => ixS 5 l11a l11n n2 fun a12 => ldI .i64 ((a12.add 1).add 1) w6 fun n13 => ixS 5 l11a l11n n2 fun a14 => stc ((a14.add 1).add 1) (.int .i64 (IntKind.wrap .i64 (n13 + 1))) w6 fun w15 => Calls Try.prog 48 #[(.pointer p1), (.int .i64 n2), (.int .i64 n3), (.int .i64 n4)] w15 fun e18 w17 => ∃ l16a l16n l16c, e18 = .returned (.slice l16a l16n l16c) ∧ (K (.tuple #[(.slice l16a l16n l16c), (.int .i64 0)]) w17)))
theorem F27_step (x0 : Value) (x1 : Value) (x2 : Value) (x3 : Value) (w : World) (K : Value → World → Prop) : (F27 x0 x1 x2 x3 w K) = rsh [(0, (.one .ptr)), (1, (.one (.int .i64))), (2, (.one (.int .i64))), (3, (.one (.int .i64)))] (args0 #[x0, x1, x2, x3]) (fun t => vc Try.prog (orcOf []) [] F27_code (retQ Try.prog Try.f27 K) t w) := by kernel_rfl
theorem F27_ok {x0 x1 x2 x3 : Value} {w : World} {K : Value → World → Prop} (h : F27 x0 x1 x2 x3 w K) : Calls Try.prog 27 #[x0, x1, x2, x3] w fun e w' => ∃ v, e = .returned v ∧ K v w' := by
  rw [F27_step] at h
  exact calls_of (c := F27_code) mixed Try.func27 rfl (nlt rfl) (vc_sound mixed (orcNil F27_code) F27_code [] rfl F27_code_ok _ _ _ (rsh_out h))

/-! (*ropewalk/ropewalkref09.Net).Drop -/
noncomputable def F28_code : Code := Try.f28.body.getD .skip
theorem F28_code_ok : okC Try.prog Try.f28.ntmps F28_code = true := by kernel_rfl
def F28 (x0 : Value) (x1 : Value) (x2 : Value) (x3 : Value) (w : World) (K : Value → World → Prop) : Prop :=
  rdP x0 fun p1 => rdI .i64 x1 fun n2 => rdI .i64 x2 fun n3 => rdI .i64 x3 fun n4 => Calls Try.prog 47 #[(.pointer p1), (.int .i64 n2), (.int .i64 n3), (.int .i64 n4)] w fun e7 w6 => ∃ n5, e7 = .returned (.int .i64 n5) ∧ (br (n5 != 0) (K (.int .i64 n5) w6) (nn p1 fun a8 => ldC (a8.add 0) w6 fun l9a l9n l9c => ixS 1 l9a l9n n3 fun a10 => ldC a10 w6 fun l11a l11n l11c => ixS 5 l11a l11n n2 fun a12 => ldI .i64 ((a12.add 1).add 2) w6 fun n13 => ixS 5 l11a l11n n2 fun a14 => stc ((a14.add 1).add 2) (.int .i64 (IntKind.wrap .i64 (n13 + 1))) w6 fun w15 => Calls Try.prog 48 #[(.pointer p1), (.int .i64 n2), (.int .i64 n3), (.int .i64 n4)] w15 fun e18 w17 => ∃ l16a l16n l16c, e18 = .returned (.slice l16a l16n l16c) ∧ (K (.int .i64 0) w17)))
theorem F28_step (x0 : Value) (x1 : Value) (x2 : Value) (x3 : Value) (w : World) (K : Value → World → Prop) : (F28 x0 x1 x2 x3 w K) = rsh [(0, (.one .ptr)), (1, (.one (.int .i64))), (2, (.one (.int .i64))), (3, (.one (.int .i64)))] (args0 #[x0, x1, x2, x3]) (fun t => vc Try.prog (orcOf []) [] F28_code (retQ Try.prog Try.f28 K) t w) := by kernel_rfl
theorem F28_ok {x0 x1 x2 x3 : Value} {w : World} {K : Value → World → Prop} (h : F28 x0 x1 x2 x3 w K) : Calls Try.prog 28 #[x0, x1, x2, x3] w fun e w' => ∃ v, e = .returned v ∧ K v w' := by
  rw [F28_step] at h
  exact calls_of (c := F28_code) mixed Try.func28 rfl (nlt rfl) (vc_sound mixed (orcNil F28_code) F28_code [] rfl F28_code_ok _ _ _ (rsh_out h))

/-! (*ropewalk/ropewalkref09.Net).Twice -/
noncomputable def F29_code : Code := Try.f29.body.getD .skip
theorem F29_code_ok : okC Try.prog Try.f29.ntmps F29_code = true := by kernel_rfl
def F29 (x0 : Value) (x1 : Value) (x2 : Value) (x3 : Value) (w : World) (K : Value → World → Prop) : Prop :=
  rdP x0 fun p1 => rdI .i64 x1 fun n2 => rdI .i64 x2 fun n3 => rdI .i64 x3 fun n4 => Calls Try.prog 47 #[(.pointer p1), (.int .i64 n2), (.int .i64 n3), (.int .i64 n4)] w fun e7 w6 => ∃ n5, e7 = .returned (.int .i64 n5) ∧ (br (n5 != 0) (K (.tuple #[(.int .i64 0), (.int .i64 n5)]) w6) (nn p1 fun a8 => ldC (a8.add 0) w6 fun l9a l9n l9c => ixS 1 l9a l9n n3 fun a10 => ldC a10 w6 fun l11a l11n l11c => ixS 5 l11a l11n n2 fun a12 => ldC (a12.add 0) w6 fun l13a l13n l13c => br (decide (((l13n : Int) : Int) ≥ 4096)) (K (.tuple #[(.int .i64 0), (.int .i64 3)]) w6) (ldC (a12.add 0) w6 fun l14a l14n l14c => ixS 5 l14a l14n n4 fun a15 => ldI .i64 (a15.add 0) w6 fun n16 => ldI .i64 (a15.add 1) w6 fun n17 => ldI .i64 (a15.add 2) w6 fun n18 => ldB (a15.add 3) w6 fun b19 => ldC (a15.add 4) w6 fun l20a l20n l20c => alc (.cells #[(.int .i64 0), (.int .i64 0), (.int .i64 0), (.bool false), (.slice none 0 0)] 102) w6 fun b21 w22 => stc ((Addr.mk b21 0 none).add 0) (.int .i64 n16) w22 fun w23 => stc ((Addr.mk b21 0 none).add 1) (.int .i64 n17) w23 fun w24 => stc ((Addr.mk b21 0 none).add 2) (.int .i64 n18) w24 fun w25 => stc ((Addr.mk b21 0 none).add 3) (.bool b19) w25 fun w26 => stc ((Addr.mk b21 0 none).add 4) (.slice l20a l20n l20c) w26 fun w27 => nn p1 fun a28 => ldI .i64 (a28.add 2) w27 fun n29 => stc (((Addr.mk b21 0 none).add 0).add 0) (.int .i64 n29) w27 fun w30 => nn p1 fun a31 => ldI .i64 (a31.add 2) w30 fun n32 => nn p1 fun a33 => stc (a33.add 2) (.int .i64 (IntKind.wrap .i64 (n32 + 1))) w30 fun w34 => ldI .i64 ((a12.add 1).add 0) w34 fun n35 => stc ((a12.add 1).add 0) (.int .i64 (IntKind.wrap .i64 (n35 + 1))) w34 fun w36 => ∃ l37a l37n l37c w38, Sem.run Try.prog (Instr.buildSlice 23 0 #[]) w36 = .ok (.slice l37a l37n l37c) w38 ∧ (ldC ((Addr.mk b21 0 none).add 4) w38 fun l39a l39n l39c => ∃ l40a l40n l40c w41, Sem.run Try.prog (Builtin.append_ #[23, 23] 23 #[(.slice l37a l37n l37c), (.slice l39a l39n l39c)]) w38 = .ok (.slice l40a l40n l40c) w41 ∧ (stc ((Addr.mk b21 0 none).add 4) (.slice l40a l40n l40c) w41 fun w42 => drw w42 fun w43 => ldC (a12.add 0) w43 fun l44a l44n l44c => ldI .i64 ((Addr.mk b21 0 none).add 0) w43 fun n45 => ldI .i64 ((Addr.mk b21 0 none).add 1) w43 fun n46 => ldI .i64 ((Addr.mk b21 0 none).add 2) w43 fun n47 => ldB ((Addr.mk b21 0 none).add 3) w43 fun b48 => ldC ((Addr.mk b21 0 none).add 4) w43 fun l49a l49n l49c => alc (.cells #[(.int .i64 n45), (.int .i64 n46), (.int .i64 n47), (.bool b48), (.slice l49a l49n l49c)] 102) w43 fun b50 w51 => Pres w43 w51 ∧ (∃ l52a l52n l52c w53, Sem.run Try.prog (Builtin.append_ #[96, 96] 96 #[(.slice l44a l44n l44c), (.slice (some (Addr.mk b50 0 none)) 1 1)]) w51 = .ok (.slice l52a l52n l52c) w53 ∧ (stc (a12.add 0) (.slice l52a l52n l52c) w53 fun w54 => ldI .i64 (((Addr.mk b21 0 none).add 0).add 0) w54 fun n55 => K (.tuple #[(.int .i64 n55), (.int .i64 0)]) w54)))))))
theorem F29_step (x0 : Value) (x1 : Value) (x2 : Value) (x3 : Value) (w : World) (K : Value → World → Prop) : (F29 x0 x1 x2 x3 w K) = rsh [(0, (.one .ptr)), (1, (.one (.int .i64))), (2, (.one (.int .i64))), (3, (.one (.int .i64)))] (args0 #[x0, x1, x2, x3]) (fun t => vc Try.prog (orcOf []) [] F29_code (retQ Try.prog Try.f29 K) t w) := by kernel_rfl
theorem F29_ok {x0 x1 x2 x3 : Value} {w : World} {K : Value → World → Prop} (h : F29 x0 x1 x2 x3 w K) : Calls Try.prog 29 #[x0, x1, x2, x3] w fun e w' => ∃ v, e = .returned v ∧ K v w' := by
  rw [F29_step] at h
  exact calls_of (c := F29_code) mixed Try.func29 rfl (nlt rfl) (vc_sound mixed (orcNil F29_code) F29_code [] rfl F29_code_ok _ _ _ (rsh_out h))

/-! (*ropewalk/ropewalkref09.Net).Spoil -/
noncomputable def F30_code : Code := Try.f30.body.getD .skip
theorem F30_code_ok : okC Try.prog Try.f30.ntmps F30_code = true := by kernel_rfl
def F30_1C (Kr : Value → World → Prop) : Post := fun o t w => match o with | .normal => False | .exit i => (False) | .ret => Kr (t 12) w
def F30_1 (Kr : Value → World → Prop) (x4 : Value) (x5 : Value) (x14 : Value) (w : World) : Prop :=
  rdI .i64 x4 fun n1 => rdI .u8 x5 fun n2 => rdC x14 fun l3a l3n l3c => ixS 1 l3a l3n n1 fun a4 => ldI .u8 a4 w fun n5 => ixS 1 l3a l3n n1 fun a6 => stc a6 (.int .u8 (bitI .xor .u8 n5 n2)) w fun w7 => Kr (.int .i64 0) w7
def F30_1O (Q : Post) (t : Tm) (w : World) : Prop := F30_1 (fun y12 w => ∀ g, rsh [(12, (.one (.int .i64)))] (upds g [(12, y12)]) fun t => Q .ret t w) (t 4) (t 5) (t 14) w
theorem F30_1_step (Kr : Value → World → Prop) (t : Tm) (w : World) : (F30_1 Kr (t 4) (t 5) (t 14) w) = rsh [(4, (.one (.int .i64))), (5, (.one (.int .u8))), (14, (.one .slc))] t (fun t => vc Try.prog (orcOf []) [1, 1, 1, 1, 1] (getAt F30_code [1, 1, 1, 1, 1]) (F30_1C Kr) t w) := by kernel_rfl
theorem F30_1_ok : ∀ Q t w, F30_1O Q t w → W Try.prog Try.f30.ntmps (getAt F30_code [1, 1, 1, 1, 1]) Q t w := by
  intro Q t w h
  unfold F30_1O at h
  rw [F30_1_step] at h
  refine (vc_sound mixed (orcNil F30_code) _ _ rfl (okC_at F30_code_ok [1, 1, 1, 1, 1]) _ _ _ (rsh_out h)).mono ?_
  intro o t w q
  cases o with
  | normal => exact q.elim
  | exit i => exact q.elim
  | ret => exact out_ok [12] q
def F30 (x0 : Value) (x1 : Value) (x2 : Value) (x3 : Value) (x4 : Value) (x5 : Value) (w : World) (K : Value → World → Prop) : Prop :=
  rdP x0 fun p1 => rdI .i64 x1 fun n2 => rdI .i64 x2 fun n3 => rdI .i64 x3 fun n4 => rdI .i64 x4 fun n5 => rdI .u8 x5 fun n6 => Calls Try.prog 47 #[(.pointer p1), (.int .i64 n2), (.int .i64 n3), (.int .i64 n4)] w fun e9 w8 => ∃ n7, e9 = .returned (.int .i64 n7) ∧ (br (n7 != 0) (K (.int .i64 n7) w8) (nn p1 fun a10 => ldC (a10.add 0) w8 fun l11a l11n l11c => ixS 1 l11a l11n n3 fun a12 => ldC a12 w8 fun l13a l13n l13c => ixS 5 l13a l13n n2 fun a14 => ldC (a14.add 0) w8 fun l15a l15n l15c => ixS 5 l15a l15n n4 fun a16 => ldC (a16.add 4) w8 fun l17a l17n l17c => br (decide ((n5 : Int) < 0)) (K (.int .i64 92) w8) (br (decide ((n5 : Int) ≥ (l17n : Int))) (K (.int .i64 92) w8) (F30_1 (fun y12_17 w19 => ∀ _g20 : Tm, rdI .i64 y12_17 fun n21 => K (.int .i64 n21) w19) (.int .i64 n5) (.int .u8 n6) (.slice l17a l17n l17c) w8))))
theorem F30_step (x0 : Value) (x1 : Value) (x2 : Value) (x3 : Value) (x4 : Value) (x5 : Value) (w : World) (K : Value → World → Prop) : (F30 x0 x1 x2 x3 x4 x5 w K) = rsh [(0, (.one .ptr)), (1, (.one (.int .i64))), (2, (.one (.int .i64))), (3, (.one (.int .i64))), (4, (.one (.int .i64))), (5, (.one (.int .u8)))] (args0 #[x0, x1, x2, x3, x4, x5]) (fun t => vc Try.prog (orcOf [([1, 1, 1, 1, 1], F30_1O)]) [] F30_code (retQ Try.prog Try.f30 K) t w) := by kernel_rfl
theorem F30_ok {x0 x1 x2 x3 x4 x5 : Value} {w : World} {K : Value → World → Prop} (h : F30 x0 x1 x2 x3 x4 x5 w K) : Calls Try.prog 30 #[x0, x1, x2, x3, x4, x5] w fun e w' => ∃ v, e = .returned v ∧ K v w' := by
  rw [F30_step] at h
  exact calls_of (c := F30_code) mixed Try.func30 rfl (nlt rfl) (vc_sound mixed (orcCons (π := [1, 1, 1, 1, 1]) F30_1_ok (orcNil F30_code)) F30_code [] rfl F30_code_ok _ _ _ (rsh_out h))

/-! (*ropewalk/ropewalkref09.Net).Down -/
noncomputable def F31_code : Code := Try.f31.body.getD .skip
theorem F31_code_ok : okC Try.prog Try.f31.ntmps F31_code = true := by kernel_rfl
def F31_1C (K0 : World → Prop) : Post := fun o t w => match o with | .normal => False | .exit i => (match Nat.beq i 0 with | true => K0  w | false => False) | .ret => False
def F31_1B (R : Value → Value → Value → World → Prop) (K0 : World → Prop) (x0 : Value) (x1 : Value) (x5 : Value) (w : World) : Prop :=
  rdP x0 fun p1 => rdI .i64 x1 fun n2 => rdI .i64 x5 fun n3 => br (decide ((n3 : Int) < 2)) (nn p1 fun a4 => ldC (a4.add 0) w fun l5a l5n l5c => ixS 1 l5a l5n n2 fun a6 => ldC a6 w fun l7a l7n l7c => ixS 5 l7a l7n n3 fun a8 => drw w fun w9 => ldI .i64 ((a8.add 1).add 2) w9 fun n10 => ldC (a8.add 0) w9 fun l11a l11n l11c => stc ((a8.add 1).add 2) (.int .i64 (IntKind.wrap .i64 (n10 + (l11n : Int)))) w9 fun w12 => stc (a8.add 0) (.slice none 0 0) w12 fun w13 => R (.pointer p1) (.int .i64 n2) (.int .i64 (IntKind.wrap .i64 (n3 + 1))) w13) (K0 w)
def F31_1 (K0 : World → Prop) : Nat → Value → Value → Value → World → Prop
  | 0 => fun _ _ _ _ => False
  | n + 1 => F31_1B (F31_1 K0 n) K0
def F31_1O (Q : Post) (t : Tm) (w : World) : Prop := ∃ n, F31_1 (fun w => ∀ g, rsh [] (upds g []) fun t => Q (.exit 0) t w) n (t 0) (t 1) (t 5) w
theorem F31_1_step (K0 : World → Prop) (n : Nat) (t : Tm) (w : World) : (F31_1 K0 (n + 1) (t 0) (t 1) (t 5) w) = rsh [(0, (.one .ptr)), (1, (.one (.int .i64))), (5, (.one (.int .i64)))] t (fun t => vc Try.prog (orcOf []) [0, 0, 1, 0, 1, 1, 1] (getAt F31_code [0, 0, 1, 0, 1, 1, 1]) (fun o t w => match o with | .normal => F31_1 K0 n (t 0) (t 1) (t 5) w | .exit i => F31_1C K0 (.exit i) t w | .ret => F31_1C K0 .ret t w) t w) := by kernel_rfl
theorem F31_1_ok : ∀ Q t w, F31_1O Q t w → W Try.prog Try.f31.ntmps (getAt F31_code [0, 1, 0, 1, 1, 1]) Q t w := by
  intro Q t w ⟨n, h⟩
  refine (W_loop (P := Try.prog) (b := getAt F31_code [0, 0, 1, 0, 1, 1, 1]) (Q := F31_1C (fun w => ∀ g, rsh [] (upds g []) fun t => Q (.exit 0) t w)) (G := fun n t w => F31_1 (fun w => ∀ g, rsh [] (upds g []) fun t => Q (.exit 0) t w) n (t 0) (t 1) (t 5) w) (fun _ _ h => h) (fun n t w h => ?_) n t w h).mono ?_
  · rw [F31_1_step] at h
    exact vc_sound mixed (orcNil F31_code) _ _ rfl (okC_at F31_code_ok [0, 0, 1, 0, 1, 1, 1]) _ _ _ (rsh_out h)
  · intro o t w q
    cases o with
    | normal => exact q.elim
    | exit i =>
      unfold F31_1C at q
      simp only at q
      split at q
      · rename_i hi
        rw [nbeq] at hi
        subst hi
        exact out_ok [] q
      · exact q.elim
    | ret => exact q.elim
def F31 (x0 : Value) (x1 : Value) (w : World) (K : Value → World → Prop) : Prop :=
  rdP x0 fun p1 => rdI .i64 x1 fun n2 => Calls Try.prog 49 #[(.pointer p1), (.int .i64 0), (.int .i64 n2)] w fun e5 w4 => ∃ b3, e5 = .returned (.bool b3) ∧ (br (!b3) (K (.int .i64 90) w4) (nn p1 fun a6 => ldC (a6.add 1) w4 fun l7a l7n l7c => ixS 1 l7a l7n n2 fun a8 => stc a8 (.bool true) w4 fun w9 => ∃ k13 : Nat, F31_1 (fun w11 => ∀ _g12 : Tm, K (.int .i64 0) w11) k13 (.pointer p1) (.int .i64 n2) (.int .i64 0) w9))
theorem F31_step (x0 : Value) (x1 : Value) (w : World) (K : Value → World → Prop) : (F31 x0 x1 w K) = rsh [(0, (.one .ptr)), (1, (.one (.int .i64)))] (args0 #[x0, x1]) (fun t => vc Try.prog (orcOf [([0, 1, 0, 1, 1, 1], F31_1O)]) [] F31_code (retQ Try.prog Try.f31 K) t w) := by kernel_rfl
theorem F31_ok {x0 x1 : Value} {w : World} {K : Value → World → Prop} (h : F31 x0 x1 w K) : Calls Try.prog 31 #[x0, x1] w fun e w' => ∃ v, e = .returned v ∧ K v w' := by
  rw [F31_step] at h
  exact calls_of (c := F31_code) mixed Try.func31 rfl (nlt rfl) (vc_sound mixed (orcCons (π := [0, 1, 0, 1, 1, 1]) F31_1_ok (orcNil F31_code)) F31_code [] rfl F31_code_ok _ _ _ (rsh_out h))

/-! (*ropewalk/ropewalkref09.Net).Up -/
noncomputable def F32_code : Code := Try.f32.body.getD .skip
theorem F32_code_ok : okC Try.prog Try.f32.ntmps F32_code = true := by kernel_rfl
def F32 (x0 : Value) (x1 : Value) (w : World) (K : Value → World → Prop) : Prop :=
  rdP x0 fun p1 => rdI .i64 x1 fun n2 => Calls Try.prog 49 #[(.pointer p1), (.int .i64 0), (.int .i64 n2)] w fun e5 w4 => ∃ b3, e5 = .returned (.bool b3) ∧ (br (!b3) (K (.int .i64 90) w4) (nn p1 fun a6 => ldC (a6.add 1) w4 fun l7a l7n l7c => ixS 1 l7a l7n n2 fun a8 => stc a8 (.bool false) w4 fun w9 => K (.int .i64 0) w9))
theorem F32_step (x0 : Value) (x1 : Value) (w : World) (K : Value → World → Prop) : (F32 x0 x1 w K) = rsh [(0, (.one .ptr)), (1, (.one (.int .i64)))] (args0 #[x0, x1]) (fun t => vc Try.prog (orcOf []) [] F32_code (retQ Try.prog Try.f32 K) t w) := by kernel_rfl
theorem F32_ok {x0 x1 : Value} {w : World} {K : Value → World → Prop} (h : F32 x0 x1 w K) : Calls Try.prog 32 #[x0, x1] w fun e w' => ∃ v, e = .returned v ∧ K v w' := by
  rw [F32_step] at h
  exact calls_of (c := F32_code) mixed Try.func32 rfl (nlt rfl) (vc_sound mixed (orcNil F32_code) F32_code [] rfl F32_code_ok _ _ _ (rsh_out h))

/-! (*ropewalk/net.Net).lane -/
noncomputable def F33_code : Code := Try.f33.body.getD .skip
theorem F33_code_ok : okC Try.prog Try.f33.ntmps F33_code = true := by kernel_rfl
def F33_1C (Kr : Value → Value → World → Prop) : Post := fun o t w => match o with | .normal => False | .exit i => (False) | .ret => Kr (t 6) (t 7) w
def F33_1 (Kr : Value → Value → World → Prop) (x0 : Value) (x1 : Value) (x2 : Value) (w : World) : Prop :=
  rdP x0 fun p1 => rdI .i64 x1 fun n2 => rdI .i64 x2 fun n3 => nn p1 fun a4 => ldC (a4.add 0) w fun l5a l5n l5c => ixS 2 l5a l5n n3 fun a6 => ixA 1 2 a6 n2 fun a7 => ldP a7 w fun p8 => Kr (.pointer p8) (.int .i64 0) w
def F33_1O (Q : Post) (t : Tm) (w : World) : Prop := F33_1 (fun y6 y7 w => ∀ g, rsh [(6, (.one .ptr)), (7, (.one (.int .i64)))] (upds g [(6, y6), (7, y7)]) fun t => Q .ret t w) (t 0) (t 1) (t 2) w
theorem F33_1_step (Kr : Value → Value → World → Prop) (t : Tm) (w : World) : (F33_1 Kr (t 0) (t 1) (t 2) w) = rsh [(0, (.one .ptr)), (1, (.one (.int .i64))), (2, (.one (.int .i64)))] t (fun t => vc Try.prog (orcOf []) [1, 1] (getAt F33_code [1, 1]) (F33_1C Kr) t w) := by kernel_rfl
theorem F33_1_ok : ∀ Q t w, F33_1O Q t w → W Try.prog Try.f33.ntmps (getAt F33_code [1, 1]) Q t w := by
  intro Q t w h
  unfold F33_1O at h
  rw [F33_1_step] at h
  refine (vc_sound mixed (orcNil F33_code) _ _ rfl (okC_at F33_code_ok [1, 1]) _ _ _ (rsh_out h)).mono ?_
  intro o t w q
  cases o with
  | normal => exact q.elim
  | exit i => exact q.elim
  | ret => exact out_ok [6, 7] q
def F33 (x0 : Value) (x1 : Value) (x2 : Value) (w : World) (K : Value → World → Prop) : Prop :=
  rdP x0 fun p1 => rdI .i64 x1 fun n2 => rdI .i64 x2 fun n3 => Calls Try.prog 23 #[(.pointer p1)] w fun e6 w5 => ∃ n4, e6 = .returned (.int .i64 n4) ∧ (br (n4 == 0) (K (.tuple #[(.pointer none), (.int .i64 4)]) w5) (br (decide ((n2 : Int) < 0)) (K (.tuple #[(.pointer none), (.int .i64 90)]) w5) (br (decide ((n2 : Int) > 1)) (K (.tuple #[(.pointer none), (.int .i64 90)]) w5) (br (decide ((n3 : Int) < 0)) (K (.tuple #[(.pointer none), (.int .i64 90)]) w5) (Calls Try.prog 23 #[(.pointer p1)] w5 fun e9 w8 => ∃ n7, e9 = .returned (.int .i64 n7) ∧ (br (decide ((n3 : Int) ≥ n7)) (K (.tuple #[(.pointer none), (.int .i64 90)]) w8) (F33_1 (fun y6_9 y7_9 w11 => ∀ _g12 : Tm, rdP y6_9 fun p13 => rdI .i64 y7_9 fun n14 => K (.tuple #[(.pointer p13), (.int .i64 n14)]) w11) (.pointer p1) (.int .i64 n2) (.int .i64 n3) w8)))))))
theorem F33_step (x0 : Value) (x1 : Value) (x2 : Value) (w : World) (K : Value → World → Prop) : (F33 x0 x1 x2 w K) = rsh [(0, (.one .ptr)), (1, (.one (.int .i64))), (2, (.one (.int .i64)))] (args0 #[x0, x1, x2]) (fun t => vc Try.prog (orcOf [([1, 1], F33_1O)]) [] F33_code (retQ Try.prog Try.f33 K) t w) := by kernel_rfl
theorem F33_ok {x0 x1 x2 : Value} {w : World} {K : Value → World → Prop} (h : F33 x0 x1 x2 w K) : Calls Try.prog 33 #[x0, x1, x2] w fun e w' => ∃ v, e = .returned v ∧ K v w' := by
  rw [F33_step] at h
  exact calls_of (c := F33_code) mixed Try.func33 rfl (nlt rfl) (vc_sound mixed (orcCons (π := [1, 1]) F33_1_ok (orcNil F33_code)) F33_code [] rfl F33_code_ok _ _ _ (rsh_out h))

/-! (*ropewalk/net.Net).at -/
noncomputable def F34_code : Code := Try.f34.body.getD .skip
theorem F34_code_ok : okC Try.prog Try.f34.ntmps F34_code = true := by kernel_rfl
def F34 (x0 : Value) (x1 : Value) (x2 : Value) (x3 : Value) (x4 : Value) (w : World) (K : Value → World → Prop) : Prop :=
  rdP x0 fun p1 => rdI .i64 x1 fun n2 => rdI .i64 x2 fun n3 => rdI .i64 x3 fun n4 => Calls Try.prog 33 #[(.pointer p1), (.int .i64 n2), (.int .i64 n3)] w fun e8 w7 => ∃ p5 n6, e8 = .returned (.tuple #[(.pointer p5), (.int .i64 n6)]) ∧ (br (n6 != 0) (K (.int .i64 n6) w7) (br (decide ((n4 : Int) < 0)) (K (.int .i64 91) w7) (nn p5 fun a9 => ldC (a9.add 4) w7 fun l10a l10n l10c => br (decide ((n4 : Int) ≥ (l10n : Int))) (K (.int .i64 91) w7) (callV Try.prog x4 #[(.pointer p1), (.pointer p5), (.int .i64 n4)] w7 (.tup []) fun r12 w11 => r12 = (.tuple #[]) ∧ (K (.int .i64 0) w11)))))
theorem F34_step (x0 : Value) (x1 : Value) (x2 : Value) (x3 : Value) (x4 : Value) (w : World) (K : Value → World → Prop) : (F34 x0 x1 x2 x3 x4 w K) = rsh [(0, (.one .ptr)), (1, (.one (.int .i64))), (2, (.one (.int .i64))), (3, (.one (.int .i64)))] (args0 #[x0, x1, x2, x3, x4]) (fun t => vc Try.prog (orcOf []) [] F34_code (retQ Try.prog Try.f34 K) t w) := by kernel_rfl
theorem F34_ok {x0 x1 x2 x3 x4 : Value} {w : World} {K : Value → World → Prop} (h : F34 x0 x1 x2 x3 x4 w K) : Calls Try.prog 34 #[x0, x1, x2, x3, x4] w fun e w' => ∃ v, e = .returned v ∧ K v w' := by
  rw [F34_step] at h
  exact calls_of (c := F34_code) mixed Try.func34 rfl (nlt rfl) (vc_sound mixed (orcNil F34_code) F34_code [] rfl F34_code_ok _ _ _ (rsh_out h))

/-! (*ropewalk/net.Net).Deliver$1 -/
noncomputable def F35_code : Code := Try.f35.body.getD .skip
theorem F35_code_ok : okC Try.prog Try.f35.ntmps F35_code = true := by kernel_rfl
def F35 (x0 : Value) (x1 : Value) (x2 : Value) (x3 : Value) (w : World) (K : Value → World → Prop) : Prop :=
  rdP x0 fun p1 => rdP x1 fun p2 => rdI .i64 x2 fun n3 => rdA x3 fun a4 => nn p2 fun a5 => ldC (a5.add 4) w fun l6a l6n l6c => ixS 5 l6a l6n n3 fun a7 => ldC (a7.add 4) w fun l8a l8n l8c => stc a4 (.slice l8a l8n l8c) w fun w9 => nn p2 fun a10 => ldI .i64 ((a10.add 0).add 1) w9 fun n11 => nn p2 fun a12 => stc ((a12.add 0).add 1) (.int .i64 (IntKind.wrap .i64 (n11 + 1))) w9 fun w13 => Calls Try.prog 36 #[(.pointer p1), (.pointer p2), (.int .i64 n3)] w13 fun e15 w14 => e15 = .returned (.tuple #[]) ∧ (K (.tuple #[]) w14)
theorem F35_step (x0 : Value) (x1 : Value) (x2 : Value) (x3 : Value) (w : World) (K : Value → World → Prop) : (F35 x0 x1 x2 x3 w K) = rsh [(0, (.one .ptr)), (1, (.one .ptr)), (2, (.one (.int .i64))), (3, (.one .adr))] (args0 #[x0, x1, x2, x3]) (fun t => vc Try.prog (orcOf []) [] F35_code (retQ Try.prog Try.f35 K) t w) := by kernel_rfl
theorem F35_ok {x0 x1 x2 x3 : Value} {w : World} {K : Value → World → Prop} (h : F35 x0 x1 x2 x3 w K) : Calls Try.prog 35 #[x0, x1, x2, x3] w fun e w' => ∃ v, e = .returned v ∧ K v w' := by
  rw [F35_step] at h
  exact calls_of (c := F35_code) mixed Try.func35 rfl (nlt rfl) (vc_sound mixed (orcNil F35_code) F35_code [] rfl F35_code_ok _ _ _ (rsh_out h))

/-! (*ropewalk/net.Net).out -/
noncomputable def F36_code : Code := Try.f36.body.getD .skip
theorem F36_code_ok : okC Try.prog Try.f36.ntmps F36_code = true := by kernel_rfl
def F36 (x0 : Value) (x1 : Value) (x2 : Value) (w : World) (K : Value → World → Prop) : Prop :=
  rdP x1 fun p1 => rdI .i64 x2 fun n2 => nn p1 fun a3 => ldC (a3.add 4) w fun l4a l4n l4c => Calls Try.prog 50 #[(.slice l4a l4n l4c), (.int .i64 n2), (.int .i64 (IntKind.wrap .i64 (n2 + 1)))] w fun e7 w6 => ∃ l5a l5n l5c, e7 = .returned (.slice l5a l5n l5c) ∧ (nn p1 fun a8 => stc (a8.add 4) (.slice l5a l5n l5c) w6 fun w9 => K (.tuple #[]) w9)
theorem F36_step (x0 : Value) (x1 : Value) (x2 : Value) (w : World) (K : Value → World → Prop) : (F36 x0 x1 x2 w K) = rsh [(1, (.one .ptr)), (2, (.one (.int .i64)))] (args0 #[x0, x1, x2]) (fun t => vc Try.prog (orcOf []) [] F36_code (retQ Try.prog Try.f36 K) t w) := by kernel_rfl
theorem F36_ok {x0 x1 x2 : Value} {w : World} {K : Value → World → Prop} (h : F36 x0 x1 x2 w K) : Calls Try.prog 36 #[x0, x1, x2] w fun e w' => ∃ v, e = .returned v ∧ K v w' := by
  rw [F36_step] at h
  exact calls_of (c := F36_code) mixed Try.func36 rfl (nlt rfl) (vc_sound mixed (orcNil F36_code) F36_code [] rfl F36_code_ok _ _ _ (rsh_out h))

/-! (*ropewalk/ropewalkref09.Net).Works -/
noncomputable def F37_code : Code := Try.f37.body.getD .skip
theorem F37_code_ok : okC Try.prog Try.f37.ntmps F37_code = true := by kernel_rfl
def F37 (x0 : Value) (x1 : Value) (w : World) (K : Value → World → Prop) : Prop :=
  rdP x0 fun p1 => rdI .i64 x1 fun n2 => Calls Try.prog 49 #[(.pointer p1), (.int .i64 0), (.int .i64 n2)] w fun e5 w4 => ∃ b3, e5 = .returned (.bool b3) ∧ (br b3 (nn p1 fun a6 => ldC (a6.add 1) w4 fun l7a l7n l7c => ixS 1 l7a l7n n2 fun a8 => ldB a8 w4 fun b9 => K (.bool (!b9)) w4) (K (.bool false) w4))
theorem F37_step (x0 : Value) (x1 : Value) (w : World) (K : Value → World → Prop) : (F37 x0 x1 w K) = rsh [(0, (.one .ptr)), (1, (.one (.int .i64)))] (args0 #[x0, x1]) (fun t => vc Try.prog (orcOf []) [] F37_code (retQ Try.prog Try.f37 K) t w) := by kernel_rfl
theorem F37_ok {x0 x1 : Value} {w : World} {K : Value → World → Prop} (h : F37 x0 x1 w K) : Calls Try.prog 37 #[x0, x1] w fun e w' => ∃ v, e = .returned v ∧ K v w' := by
  rw [F37_step] at h
  exact calls_of (c := F37_code) mixed Try.func37 rfl (nlt rfl) (vc_sound mixed (orcNil F37_code) F37_code [] rfl F37_code_ok _ _ _ (rsh_out h))

/-! (*ropewalk/ropewalkref09.Net).Flying -/
noncomputable def F38_code : Code := Try.f38.body.getD .skip
theorem F38_code_ok : okC Try.prog Try.f38.ntmps F38_code = true := by kernel_rfl
def F38_1C (K0 : Value → World → Prop) : Post := fun o t w => match o with | .normal => False | .exit i => (match Nat.beq i 0 with | true => K0 (t 8) w | false => False) | .ret => False
def F38_1B (R : Value → Value → Value → World → Prop) (K0 : Value → World → Prop) (x8 : Value) (x9 : Value) (x10 : Value) (w : World) : Prop :=
  rdC x8 fun l1a l1n l1c => rdA x9 fun a2 => rdI .i64 x10 fun n3 => ldC (a2.add 0) w fun l4a l4n l4c => br (decide ((n3 : Int) < (l4n : Int))) (ldC (a2.add 0) w fun l5a l5n l5c => ixS 5 l5a l5n n3 fun a6 => ldI .i64 ((a6.add 0).add 0) w fun n7 => ldI .i64 ((a6.add 0).add 1) w fun n8 => ldI .i64 ((a6.add 0).add 2) w fun n9 => ldB ((a6.add 0).add 3) w fun b10 => alc (.cells #[(.int .i64 n7), (.int .i64 n8), (.int .i64 n9), (.bool b10)] 43) w fun b11 w12 => ∃ l13a l13n l13c w14, Sem.run Try.prog (Builtin.append_ #[39, 39] 39 #[(.slice l1a l1n l1c), (.slice (some (Addr.mk b11 0 none)) 1 1)]) w12 = .ok (.slice l13a l13n l13c) w14 ∧ (R (.slice l13a l13n l13c) (.pointer (some a2)) (.int .i64 (IntKind.wrap .i64 (n3 + 1))) w14)) (K0 (.slice l1a l1n l1c) w)
def F38_1 (K0 : Value → World → Prop) : Nat → Value → Value → Value → World → Prop
  | 0 => fun _ _ _ _ => False
  | n + 1 => F38_1B (F38_1 K0 n) K0
def F38_1O (Q : Post) (t : Tm) (w : World) : Prop := ∃ n, F38_1 (fun y8 w => ∀ g, rsh [(8, (.one .slc))] (upds g [(8, y8)]) fun t => Q (.exit 0) t w) n (t 8) (t 9) (t 10) w
theorem F38_1_step (K0 : Value → World → Prop) (n : Nat) (t : Tm) (w : World) : (F38_1 K0 (n + 1) (t 8) (t 9) (t 10) w) = rsh [(8, (.one .slc)), (9, (.one .adr)), (10, (.one (.int .i64)))] t (fun t => vc Try.prog (orcOf []) [0, 0, 1, 0, 1, 1, 1, 1] (getAt F38_code [0, 0, 1, 0, 1, 1, 1, 1]) (fun o t w => match o with | .normal => F38_1 K0 n (t 8) (t 9) (t 10) w | .exit i => F38_1C K0 (.exit i) t w | .ret => F38_1C K0 .ret t w) t w) := by kernel_rfl
theorem F38_1_ok : ∀ Q t w, F38_1O Q t w → W Try.prog Try.f38.ntmps (getAt F38_code [0, 1, 0, 1, 1, 1, 1]) Q t w := by
  intro Q t w ⟨n, h⟩
  refine (W_loop (P := Try.prog) (b := getAt F38_code [0, 0, 1, 0, 1, 1, 1, 1]) (Q := F38_1C (fun y8 w => ∀ g, rsh [(8, (.one .slc))] (upds g [(8, y8)]) fun t => Q (.exit 0) t w)) (G := fun n t w => F38_1 (fun y8 w => ∀ g, rsh [(8, (.one .slc))] (upds g [(8, y8)]) fun t => Q (.exit 0) t w) n (t 8) (t 9) (t 10) w) (fun _ _ h => h) (fun n t w h => ?_) n t w h).mono ?_
  · rw [F38_1_step] at h
    exact vc_sound mixed (orcNil F38_code) _ _ rfl (okC_at F38_code_ok [0, 0, 1, 0, 1, 1, 1, 1]) _ _ _ (rsh_out h)
  · intro o t w q
    cases o with
    | normal => exact q.elim
    | exit i =>
      unfold F38_1C at q
      simp only at q
      split at q
      · rename_i hi
        rw [nbeq] at hi
        subst hi
        exact out_ok [8] q
      · exact q.elim
    | ret => exact q.elim
def F38 (x0 : Value) (x1 : Value) (x2 : Value) (w : World) (K : Value → World → Prop) : Prop :=
  rdP x0 fun p1 => rdI .i64 x1 fun n2 => rdI .i64 x2 fun n3 => Calls Try.prog 49 #[(.pointer p1), (.int .i64 n2), (.int .i64 n3)] w fun e6 w5 => ∃ b4, e6 = .returned (.bool b4) ∧ (br (!b4) (K (.tuple #[(.slice none 0 0), (.int .i64 90)]) w5) (nn p1 fun a7 => ldC (a7.add 0) w5 fun l8a l8n l8c => ixS 1 l8a l8n n3 fun a9 => ldC a9 w5 fun l10a l10n l10c => ixS 5 l10a l10n n2 fun a11 => ldC (a11.add 0) w5 fun l12a l12n l12c => ldI .i64 (a11.add 1) w5 fun n13 => ldI .i64 (a11.add 2) w5 fun n14 => ldI .i64 (a11.add 3) w5 fun n15 => ldI .i64 (a11.add 4) w5 fun n16 => alc (.cells #[(.slice none 0 0), (.int .i64 0), (.int .i64 0), (.int .i64 0), (.int .i64 0)] 98) w5 fun b17 w18 => stc ((Addr.mk b17 0 none).add 0) (.slice l12a l12n l12c) w18 fun w19 => stc ((Addr.mk b17 0 none).add 1) (.int .i64 n13) w19 fun w20 => stc ((Addr.mk b17 0 none).add 2) (.int .i64 n14) w20 fun w21 => stc ((Addr.mk b17 0 none).add 3) (.int .i64 n15) w21 fun w22 => stc ((Addr.mk b17 0 none).add 4) (.int .i64 n16) w22 fun w23 => ∃ k28 : Nat, F38_1 (fun y8_23 w25 => ∀ _g26 : Tm, rdC y8_23 fun l27a l27n l27c => K (.tuple #[(.slice l27a l27n l27c), (.int .i64 0)]) w25) k28 (.slice none 0 0) (.pointer (some (Addr.mk b17 0 none))) (.int .i64 0) w23))
theorem F38_step (x0 : Value) (x1 : Value) (x2 : Value) (w : World) (K : Value → World → Prop) : (F38 x0 x1 x2 w K) = rsh [(0, (.one .ptr)), (1, (.one (.int .i64))), (2, (.one (.int .i64)))] (args0 #[x0, x1, x2]) (fun t => vc Try.prog (orcOf [([0, 1, 0, 1, 1, 1, 1], F38_1O)]) [] F38_code (retQ Try.prog Try.f38 K) t w) := by kernel_rfl
theorem F38_ok {x0 x1 x2 : Value} {w : World} {K : Value → World → Prop} (h : F38 x0 x1 x2 w K) : Calls Try.prog 38 #[x0, x1, x2] w fun e w' => ∃ v, e = .returned v ∧ K v w' := by
  rw [F38_step] at h
  exact calls_of (c := F38_code) mixed Try.func38 rfl (nlt rfl) (vc_sound mixed (orcCons (π := [0, 1, 0, 1, 1, 1, 1]) F38_1_ok (orcNil F38_code)) F38_code [] rfl F38_code_ok _ _ _ (rsh_out h))

/-! (*ropewalk/ropewalkref09.Net).Traffic -/
noncomputable def F39_code : Code := Try.f39.body.getD .skip
theorem F39_code_ok : okC Try.prog Try.f39.ntmps F39_code = true := by kernel_rfl
def F39 (x0 : Value) (x1 : Value) (x2 : Value) (w : World) (K : Value → World → Prop) : Prop :=
  rdP x0 fun p1 => rdI .i64 x1 fun n2 => rdI .i64 x2 fun n3 => alc (.cells #[(.int .i64 0), (.int .i64 0), (.int .i64 0), (.int .i64 0)] 48) w fun b4 w5 => Calls Try.prog 49 #[(.pointer p1), (.int .i64 n2), (.int .i64 n3)] w5 fun e8 w7 => ∃ b6, e8 = .returned (.bool b6) ∧ (br (!b6) (stc ((Addr.mk b4 0 none).add 0) (.int .i64 0) w7 fun w9 => stc ((Addr.mk b4 0 none).add 1) (.int .i64 0) w9 fun w10 => stc ((Addr.mk b4 0 none).add 2) (.int .i64 0) w10 fun w11 => stc ((Addr.mk b4 0 none).add 3) (.int .i64 0) w11 fun w12 => ldI .i64 ((Addr.mk b4 0 none).add 0) w12 fun n13 => ldI .i64 ((Addr.mk b4 0 none).add 1) w12 fun n14 => ldI .i64 ((Addr.mk b4 0 none).add 2) w12 fun n15 => ldI .i64 ((Addr.mk b4 0 none).add 3) w12 fun n16 => K (.tuple #[(.agg #[(.int .i64 n13), (.int .i64 n14), (.int .i64 n15), (.int .i64 n16)]), (.int .i64 90)]) w12) (nn p1 fun a17 => ldC (a17.add 0) w7 fun l18a l18n l18c => ixS 1 l18a l18n n3 fun a19 => ldC a19 w7 fun l20a l20n l20c => ixS 5 l20a l20n n2 fun a21 => ldI .i64 ((a21.add 1).add 0) w7 fun n22 => ldI .i64 ((a21.add 1).add 1) w7 fun n23 => ldI .i64 ((a21.add 1).add 2) w7 fun n24 => ldI .i64 ((a21.add 1).add 3) w7 fun n25 => stc ((Addr.mk b4 0 none).add 0) (.int .i64 n22) w7 fun w26 => stc ((Addr.mk b4 0 none).add 1) (.int .i64 n23) w26 fun w27 => stc ((Addr.mk b4 0 none).add 2) (.int .i64 n24) w27 fun w28 => stc ((Addr.mk b4 0 none).add 3) (.int .i64 n25) w28 fun w29 => ldI .i64 ((Addr.mk b4 0 none).add 0) w29 fun n30 => ldI .i64 ((Addr.mk b4 0 none).add 1) w29 fun n31 => ldI .i64 ((Addr.mk b4 0 none).add 2) w29 fun n32 => ldI .i64 ((Addr.mk b4 0 none).add 3) w29 fun n33 => K (.tuple #[(.agg #[(.int .i64 n30), (.int .i64 n31), (.int .i64 n32), (.int .i64 n33)]), (.int .i64 0)]) w29))
theorem F39_step (x0 : Value) (x1 : Value) (x2 : Value) (w : World) (K : Value → World → Prop) : (F39 x0 x1 x2 w K) = rsh [(0, (.one .ptr)), (1, (.one (.int .i64))), (2, (.one (.int .i64)))] (args0 #[x0, x1, x2]) (fun t => vc Try.prog (orcOf []) [] F39_code (retQ Try.prog Try.f39 K) t w) := by kernel_rfl
theorem F39_ok {x0 x1 x2 : Value} {w : World} {K : Value → World → Prop} (h : F39 x0 x1 x2 w K) : Calls Try.prog 39 #[x0, x1, x2] w fun e w' => ∃ v, e = .returned v ∧ K v w' := by
  rw [F39_step] at h
  exact calls_of (c := F39_code) mixed Try.func39 rfl (nlt rfl) (vc_sound mixed (orcNil F39_code) F39_code [] rfl F39_code_ok _ _ _ (rsh_out h))

/-! (*ropewalk/net.Net).Twice$1 -/
noncomputable def F40_code : Code := Try.f40.body.getD .skip
theorem F40_code_ok : okC Try.prog Try.f40.ntmps F40_code = true := by kernel_rfl
def F40 (x0 : Value) (x1 : Value) (x2 : Value) (x3 : Value) (x4 : Value) (w : World) (K : Value → World → Prop) : Prop :=
  rdP x0 fun p1 => rdP x1 fun p2 => rdI .i64 x2 fun n3 => rdA x3 fun a4 => rdA x4 fun a5 => nn p2 fun a6 => ldC (a6.add 4) w fun l7a l7n l7c => stc a4 (.bool (decide (((l7n : Int) : Int) ≥ 4096))) w fun w8 => ldB a4 w8 fun b9 => br b9 (K (.tuple #[]) w8) (nn p2 fun a10 => ldC (a10.add 4) w8 fun l11a l11n l11c => ixS 5 l11a l11n n3 fun a12 => ldI .i64 (a12.add 0) w8 fun n13 => ldI .i64 (a12.add 1) w8 fun n14 => ldI .i64 (a12.add 2) w8 fun n15 => ldB (a12.add 3) w8 fun b16 => ldC (a12.add 4) w8 fun l17a l17n l17c => alc (.cells #[(.int .i64 0), (.int .i64 0), (.int .i64 0), (.bool false), (.slice none 0 0)] 83) w8 fun b18 w19 => stc ((Addr.mk b18 0 none).add 0) (.int .i64 n13) w19 fun w20 => stc ((Addr.mk b18 0 none).add 1) (.int .i64 n14) w20 fun w21 => stc ((Addr.mk b18 0 none).add 2) (.int .i64 n15) w21 fun w22 => stc ((Addr.mk b18 0 none).add 3) (.bool b16) w22 fun w23 => stc ((Addr.mk b18 0 none).add 4) (.slice l17a l17n l17c) w23 fun w24 => ldC ((Addr.mk b18 0 none).add 4) w24 fun l25a l25n l25c => Calls Try.prog 41 #[(.slice l25a l25n l25c)] w24 fun e28 w27 => ∃ l26a l26n l26c, e28 = .returned (.slice l26a l26n l26c) ∧ (stc ((Addr.mk b18 0 none).add 4) (.slice l26a l26n l26c) w27 fun w29 => drw w29 fun w30 => ∃ w31 : World, Pres w31 w30 ∧ (nn p1 fun a32 => ldI .i64 (a32.add 2) w30 fun n33 => nn p1 fun a34 => ldI .i64 (a34.add 2) w31 fun n35 => stc a5 (.int .i64 n33) w30 fun w36 => Pres w31 w36 ∧ (stc (((Addr.mk b18 0 none).add 0).add 0) (.int .i64 n35) w36 fun w37 => nn p1 fun a38 => ldI .i64 (a38.add 2) w37 fun n39 => nn p1 fun a40 => stc (a40.add 2) (.int .i64 (IntKind.wrap .i64 (n39 + 1))) w37 fun w41 => nn p2 fun a42 => ldI .i64 ((a42.add 0).add 0) w41 fun n43 => nn p2 fun a44 => stc ((a44.add 0).add 0) (.int .i64 (IntKind.wrap .i64 (n43 + 1))) w41 fun w45 => drw w45 fun w46 => nn p2 fun a47 => ldC (a47.add 4) w46 fun l48a l48n l48c => ldI .i64 ((Addr.mk b18 0 none).add 0) w46 fun n49 => ldI .i64 ((Addr.mk b18 0 none).add 1) w46 fun n50 => ldI .i64 ((Addr.mk b18 0 none).add 2) w46 fun n51 => ldB ((Addr.mk b18 0 none).add 3) w46 fun b52 => ldC ((Addr.mk b18 0 none).add 4) w46 fun l53a l53n l53c => alc (.cells #[(.int .i64 n49), (.int .i64 n50), (.int .i64 n51), (.bool b52), (.slice l53a l53n l53c)] 83) w46 fun b54 w55 => Pres w46 w55 ∧ (∃ l56a l56n l56c w57, Sem.run Try.prog (Builtin.append_ #[67, 67] 67 #[(.slice l48a l48n l48c), (.slice (some (Addr.mk b54 0 none)) 1 1)]) w55 = .ok (.slice l56a l56n l56c) w57 ∧ (nn p2 fun a58 => stc (a58.add 4) (.slice l56a l56n l56c) w57 fun w59 => K (.tuple #[]) w59))))))
theorem F40_step (x0 : Value) (x1 : Value) (x2 : Value) (x3 : Value) (x4 : Value) (w : World) (K : Value → World → Prop) : (F40 x0 x1 x2 x3 x4 w K) = rsh [(0, (.one .ptr)), (1, (.one .ptr)), (2, (.one (.int .i64))), (3, (.one .adr)), (4, (.one .adr))] (args0 #[x0, x1, x2, x3, x4]) (fun t => vc Try.prog (orcOf []) [] F40_code (retQ Try.prog Try.f40 K) t w) := by kernel_rfl
theorem F40_ok {x0 x1 x2 x3 x4 : Value} {w : World} {K : Value → World → Prop} (h : F40 x0 x1 x2 x3 x4 w K) : Calls Try.prog 40 #[x0, x1, x2, x3, x4] w fun e w' => ∃ v, e = .returned v ∧ K v w' := by
  rw [F40_step] at h
  exact calls_of (c := F40_code) mixed Try.func40 rfl (nlt rfl) (vc_sound mixed (orcNil F40_code) F40_code [] rfl F40_code_ok _ _ _ (rsh_out h))

/-! slices.Clone[[]byte,byte] -/
noncomputable def F41_code : Code := Try.f41.body.getD .skip
theorem F41_code_ok : okC Try.prog Try.f41.ntmps F41_code = true := by kernel_rfl
def F41 (x0 : Value) (w : World) (K : Value → World → Prop) : Prop :=
  rdC x0 fun l1a l1n l1c => br (Option.isNone l1a) (K (.slice none 0 0) w) (∃ l2a l2n l2c w3, Sem.run Try.prog (Instr.buildSlice 23 0 #[]) w = .ok (.slice l2a l2n l2c) w3 ∧ (∃ l4a l4n l4c w5, Sem.run Try.prog (Builtin.append_ #[23, 23] 23 #[(.slice l2a l2n l2c), (.slice l1a l1n l1c)]) w3 = .ok (.slice l4a l4n l4c) w5 ∧ (K (.slice l4a l4n l4c) w5)))
theorem F41_step (x0 : Value) (w : World) (K : Value → World → Prop) : (F41 x0 w K) = rsh [(0, (.one .slc))] (args0 #[x0]) (fun t => vc Try.prog (orcOf []) [] F41_code (retQ Try.prog Try.f41 K) t w) := by kernel_rfl
theorem F41_ok {x0 : Value} {w : World} {K : Value → World → Prop} (h : F41 x0 w K) : Calls Try.prog 41 #[x0] w fun e w' => ∃ v, e = .returned v ∧ K v w' := by
  rw [F41_step] at h
  exact calls_of (c := F41_code) mixed Try.func41 rfl (nlt rfl) (vc_sound mixed (orcNil F41_code) F41_code [] rfl F41_code_ok _ _ _ (rsh_out h))

/-! (*ropewalk/net.Net).drop -/
noncomputable def F42_code : Code := Try.f42.body.getD .skip
theorem F42_code_ok : okC Try.prog Try.f42.ntmps F42_code = true := by kernel_rfl
def F42 (x0 : Value) (x1 : Value) (x2 : Value) (w : World) (K : Value → World → Prop) : Prop :=
  rdP x0 fun p1 => rdP x1 fun p2 => rdI .i64 x2 fun n3 => nn p2 fun a4 => ldI .i64 ((a4.add 0).add 2) w fun n5 => nn p2 fun a6 => stc ((a6.add 0).add 2) (.int .i64 (IntKind.wrap .i64 (n5 + 1))) w fun w7 => Calls Try.prog 36 #[(.pointer p1), (.pointer p2), (.int .i64 n3)] w7 fun e9 w8 => e9 = .returned (.tuple #[]) ∧ (K (.tuple #[]) w8)
theorem F42_step (x0 : Value) (x1 : Value) (x2 : Value) (w : World) (K : Value → World → Prop) : (F42 x0 x1 x2 w K) = rsh [(0, (.one .ptr)), (1, (.one .ptr)), (2, (.one (.int .i64)))] (args0 #[x0, x1, x2]) (fun t => vc Try.prog (orcOf []) [] F42_code (retQ Try.prog Try.f42 K) t w) := by kernel_rfl
theorem F42_ok {x0 x1 x2 : Value} {w : World} {K : Value → World → Prop} (h : F42 x0 x1 x2 w K) : Calls Try.prog 42 #[x0, x1, x2] w fun e w' => ∃ v, e = .returned v ∧ K v w' := by
  rw [F42_step] at h
  exact calls_of (c := F42_code) mixed Try.func42 rfl (nlt rfl) (vc_sound mixed (orcNil F42_code) F42_code [] rfl F42_code_ok _ _ _ (rsh_out h))

/-! (*ropewalk/net.Net).Spoil$1 -/
noncomputable def F43_code : Code := Try.f43.body.getD .skip
theorem F43_code_ok : okC Try.prog Try.f43.ntmps F43_code = true := by kernel_rfl
def F43_1C (Kn : World → Prop) : Post := fun o t w => match o with | .normal => Kn  w | .exit i => (False) | .ret => False
def F43_1 (Kn : World → Prop) (x1 : Value) (x2 : Value) (x3 : Value) (x4 : Value) (x5 : Value) (w : World) : Prop :=
  rdP x1 fun p1 => rdI .i64 x2 fun n2 => rdA x3 fun a3 => rdA x4 fun a4 => rdA x5 fun a5 => ldB a4 w fun b6 => br b6 (drw w fun w7 => nn p1 fun a8 => ldC (a8.add 4) w7 fun l9a l9n l9c => ixS 5 l9a l9n n2 fun a10 => ldC (a10.add 4) w7 fun l11a l11n l11c => ldI .i64 a3 w7 fun n12 => ixS 1 l11a l11n n12 fun a13 => ldI .u8 a13 w7 fun n14 => ldI .u8 a5 w7 fun n15 => ixS 1 l11a l11n n12 fun a16 => stc a16 (.int .u8 (bitI .xor .u8 n14 n15)) w7 fun w17 => Kn w17) (Kn w)
def F43_1O (Q : Post) (t : Tm) (w : World) : Prop := F43_1 (fun w => ∀ g, rsh [] (upds g []) fun t => Q .normal t w) (t 1) (t 2) (t 3) (t 4) (t 5) w
theorem F43_1_step (Kn : World → Prop) (t : Tm) (w : World) : (F43_1 Kn (t 1) (t 2) (t 3) (t 4) (t 5) w) = rsh [(1, (.one .ptr)), (2, (.one (.int .i64))), (3, (.one .adr)), (4, (.one .adr)), (5, (.one .adr))] t (fun t => vc Try.prog (orcOf []) [1] (getAt F43_code [1]) (F43_1C Kn) t w) := by kernel_rfl
theorem F43_1_ok : ∀ Q t w, F43_1O Q t w → W Try.prog Try.f43.ntmps (getAt F43_code [1]) Q t w := by
  intro Q t w h
  unfold F43_1O at h
  rw [F43_1_step] at h
  refine (vc_sound mixed (orcNil F43_code) _ _ rfl (okC_at F43_code_ok [1]) _ _ _ (rsh_out h)).mono ?_
  intro o t w q
  cases o with
  | normal => exact out_ok [] q
  | exit i => exact q.elim
  | ret => exact q.elim
def F43 (x0 : Value) (x1 : Value) (x2 : Value) (x3 : Value) (x4 : Value) (x5 : Value) (w : World) (K : Value → World → Prop) : Prop :=
  rdP x1 fun p1 => rdI .i64 x2 fun n2 => rdA x3 fun a3 => rdA x4 fun a4 => rdA x5 fun a5 => drw w fun w6 => ldI .i64 a3 w6 fun n7 => br (decide ((n7 : Int) ≥ 0)) (ldI .i64 a3 w6 fun n8 => nn p1 fun a9 => ldC (a9.add 4) w6 fun l10a l10n l10c => ixS 5 l10a l10n n2 fun a11 => ldC (a11.add 4) w6 fun l12a l12n l12c => stc a4 (.bool (decide ((n8 : Int) < (l12n : Int)))) w6 fun w13 => F43_1 (fun w15 => ∀ _g16 : Tm, K (.tuple #[]) w15) (.pointer p1) (.int .i64 n2) (.pointer (some a3)) (.pointer (some a4)) (.pointer (some a5)) w13) (stc a4 (.bool false) w6 fun w17 => F43_1 (fun w19 => ∀ _g20 : Tm, K (.tuple #[]) w19) (.pointer p1) (.int .i64 n2) (.pointer (some a3)) (.pointer (some a4)) (.pointer (some a5)) w17)
theorem F43_step (x0 : Value) (x1 : Value) (x2 : Value) (x3 : Value) (x4 : Value) (x5 : Value) (w : World) (K : Value → World → Prop) : (F43 x0 x1 x2 x3 x4 x5 w K) = rsh [(1, (.one .ptr)), (2, (.one (.int .i64))), (3, (.one .adr)), (4, (.one .adr)), (5, (.one .adr))] (args0 #[x0, x1, x2, x3, x4, x5]) (fun t => vc Try.prog (orcOf [([1], F43_1O)]) [] F43_code (retQ Try.prog Try.f43 K) t w) := by kernel_rfl
theorem F43_ok {x0 x1 x2 x3 x4 x5 : Value} {w : World} {K : Value → World → Prop} (h : F43 x0 x1 x2 x3 x4 x5 w K) : Calls Try.prog 43 #[x0, x1, x2, x3, x4, x5] w fun e w' => ∃ v, e = .returned v ∧ K v w' := by
  rw [F43_step] at h
  exact calls_of (c := F43_code) mixed Try.func43 rfl (nlt rfl) (vc_sound mixed (orcCons (π := [1]) F43_1_ok (orcNil F43_code)) F43_code [] rfl F43_code_ok _ _ _ (rsh_out h))

/-! (*ropewalk/net.Net).turn -/
noncomputable def F44_code : Code := Try.f44.body.getD .skip
theorem F44_code_ok : okC Try.prog Try.f44.ntmps F44_code = true := by kernel_rfl
def F44_1C (K0 : World → Prop) : Post := fun o t w => match o with | .normal => False | .exit i => (match Nat.beq i 0 with | true => K0  w | false => False) | .ret => False
def F44_1B (R : Value → Value → World → Prop) (K0 : World → Prop) (x34 : Value) (x35 : Value) (w : World) : Prop :=
  ∃ p1 p2, x34 = (.agg #[(.pointer p1), (.pointer p2)]) ∧ (rdI .i64 x35 fun n3 => br (decide ((n3 : Int) < 2)) ((0 ≤ n3 ∧ n3 < ((2 : Nat) : Int)) ∧ (∃ p4, partV Try.prog 66 #[(.pointer p1), (.pointer p2)] (Int.toNat n3 * 1) = some (.pointer p4) ∧ (Calls Try.prog 51 #[(.pointer p4)] w fun e6 w5 => e6 = .returned (.tuple #[]) ∧ (R (.agg #[(.pointer p1), (.pointer p2)]) (.int .i64 (IntKind.wrap .i64 (n3 + 1))) w5)))) (K0 w))
def F44_1 (K0 : World → Prop) : Nat → Value → Value → World → Prop
  | 0 => fun _ _ _ => False
  | n + 1 => F44_1B (F44_1 K0 n) K0
def F44_1O (Q : Post) (t : Tm) (w : World) : Prop := ∃ n, F44_1 (fun w => ∀ g, rsh [] (upds g []) fun t => Q (.exit 0) t w) n (t 34) (t 35) w
theorem F44_1_step (K0 : World → Prop) (n : Nat) (t : Tm) (w : World) : (F44_1 K0 (n + 1) (t 34) (t 35) w) = rsh [(34, (.agg [.ptr, .ptr])), (35, (.one (.int .i64)))] t (fun t => vc Try.prog (orcOf []) [0, 0, 1, 0, 1, 0, 1, 1, 1] (getAt F44_code [0, 0, 1, 0, 1, 0, 1, 1, 1]) (fun o t w => match o with | .normal => F44_1 K0 n (t 34) (t 35) w | .exit i => F44_1C K0 (.exit i) t w | .ret => F44_1C K0 .ret t w) t w) := by kernel_rfl
theorem F44_1_ok : ∀ Q t w, F44_1O Q t w → W Try.prog Try.f44.ntmps (getAt F44_code [0, 1, 0, 1, 0, 1, 1, 1]) Q t w := by
  intro Q t w ⟨n, h⟩
  refine (W_loop (P := Try.prog) (b := getAt F44_code [0, 0, 1, 0, 1, 0, 1, 1, 1]) (Q := F44_1C (fun w => ∀ g, rsh [] (upds g []) fun t => Q (.exit 0) t w)) (G := fun n t w => F44_1 (fun w => ∀ g, rsh [] (upds g []) fun t => Q (.exit 0) t w) n (t 34) (t 35) w) (fun _ _ h => h) (fun n t w h => ?_) n t w h).mono ?_
  · rw [F44_1_step] at h
    exact vc_sound mixed (orcNil F44_code) _ _ rfl (okC_at F44_code_ok [0, 0, 1, 0, 1, 0, 1, 1, 1]) _ _ _ (rsh_out h)
  · intro o t w q
    cases o with
    | normal => exact q.elim
    | exit i =>
      unfold F44_1C at q
      simp only at q
      split at q
      · rename_i hi
        rw [nbeq] at hi
        subst hi
        exact out_ok [] q
      · exact q.elim
    | ret => exact q.elim
def F44 (x0 : Value) (x1 : Value) (x2 : Value) (w : World) (K : Value → World → Prop) : Prop :=
  rdP x0 fun p1 => rdI .i64 x1 fun n2 => rdB x2 fun b3 => Calls Try.prog 33 #[(.pointer p1), (.int .i64 0), (.int .i64 n2)] w fun e7 w6 => ∃ p4 n5, e7 = .returned (.tuple #[(.pointer p4), (.int .i64 n5)]) ∧ (br (n5 != 0) (K (.int .i64 n5) w6) (nn p1 fun a8 => ldC (a8.add 1) w6 fun l9a l9n l9c => ixS 1 l9a l9n n2 fun a10 => stc a10 (.bool b3) w6 fun w11 => br b3 (nn p1 fun a12 => ldC (a12.add 0) w11 fun l13a l13n l13c => ixS 2 l13a l13n n2 fun a14 => ldP (a14.add 0) w11 fun p15 => ldP (a14.add 1) w11 fun p16 => ∃ k20 : Nat, F44_1 (fun w18 => ∀ _g19 : Tm, K (.int .i64 0) w18) k20 (.agg #[(.pointer p15), (.pointer p16)]) (.int .i64 0) w11) (K (.int .i64 0) w11)))
theorem F44_step (x0 : Value) (x1 : Value) (x2 : Value) (w : World) (K : Value → World → Prop) : (F44 x0 x1 x2 w K) = rsh [(0, (.one .ptr)), (1, (.one (.int .i64))), (2, (.one .bool))] (args0 #[x0, x1, x2]) (fun t => vc Try.prog (orcOf [([0, 1, 0, 1, 0, 1, 1, 1], F44_1O)]) [] F44_code (retQ Try.prog Try.f44 K) t w) := by kernel_rfl
theorem F44_ok {x0 x1 x2 : Value} {w : World} {K : Value → World → Prop} (h : F44 x0 x1 x2 w K) : Calls Try.prog 44 #[x0, x1, x2] w fun e w' => ∃ v, e = .returned v ∧ K v w' := by
  rw [F44_step] at h
  exact calls_of (c := F44_code) mixed Try.func44 rfl (nlt rfl) (vc_sound mixed (orcCons (π := [0, 1, 0, 1, 0, 1, 1, 1]) F44_1_ok (orcNil F44_code)) F44_code [] rfl F44_code_ok _ _ _ (rsh_out h))

/-! (*ropewalk/net.lane).put -/
noncomputable def F45_code : Code := Try.f45.body.getD .skip
theorem F45_code_ok : okC Try.prog Try.f45.ntmps F45_code = true := by kernel_rfl
def F45 (x0 : Value) (x1 : Value) (x2 : Value) (w : World) (K : Value → World → Prop) : Prop :=
  rdP x0 fun p1 => ∃ n2 n3 n4 b5 l6a l6n l6c, x1 = (.agg #[(.int .i64 n2), (.int .i64 n3), (.int .i64 n4), (.bool b5), (.slice l6a l6n l6c)]) ∧ (rdB x2 fun b7 => alc (.cells #[(.int .i64 n2), (.int .i64 n3), (.int .i64 n4), (.bool b5), (.slice l6a l6n l6c)] 83) w fun b8 w9 => br b7 (drw w9 fun w10 => nn p1 fun a11 => ldC (a11.add 4) w10 fun l12a l12n l12c => ldI .i64 ((Addr.mk b8 0 none).add 0) w10 fun n13 => ldI .i64 ((Addr.mk b8 0 none).add 1) w10 fun n14 => ldI .i64 ((Addr.mk b8 0 none).add 2) w10 fun n15 => ldB ((Addr.mk b8 0 none).add 3) w10 fun b16 => ldC ((Addr.mk b8 0 none).add 4) w10 fun l17a l17n l17c => alc (.cells #[(.int .i64 n13), (.int .i64 n14), (.int .i64 n15), (.bool b16), (.slice l17a l17n l17c)] 83) w10 fun b18 w19 => Pres w10 w19 ∧ (∃ l20a l20n l20c w21, Sem.run Try.prog (Builtin.append_ #[67, 67] 67 #[(.slice l12a l12n l12c), (.slice (some (Addr.mk b18 0 none)) 1 1)]) w19 = .ok (.slice l20a l20n l20c) w21 ∧ (nn p1 fun a22 => stc (a22.add 4) (.slice l20a l20n l20c) w21 fun w23 => K (.tuple #[]) w23))) (nn p1 fun a24 => ldI .i64 ((a24.add 0).add 2) w9 fun n25 => nn p1 fun a26 => stc ((a26.add 0).add 2) (.int .i64 (IntKind.wrap .i64 (n25 + 1))) w9 fun w27 => K (.tuple #[]) w27))
theorem F45_step (x0 : Value) (x1 : Value) (x2 : Value) (w : World) (K : Value → World → Prop) : (F45 x0 x1 x2 w K) = rsh [(0, (.one .ptr)), (1, (.agg [(.int .i64), (.int .i64), (.int .i64), .bool, .slc])), (2, (.one .bool))] (args0 #[x0, x1, x2]) (fun t => vc Try.prog (orcOf []) [] F45_code (retQ Try.prog Try.f45 K) t w) := by kernel_rfl
theorem F45_ok {x0 x1 x2 : Value} {w : World} {K : Value → World → Prop} (h : F45 x0 x1 x2 w K) : Calls Try.prog 45 #[x0, x1, x2] w fun e w' => ∃ v, e = .returned v ∧ K v w' := by
  rw [F45_step] at h
  exact calls_of (c := F45_code) mixed Try.func45 rfl (nlt rfl) (vc_sound mixed (orcNil F45_code) F45_code [] rfl F45_code_ok _ _ _ (rsh_out h))

/-! (*ropewalk/ropewalkref09.Net).put -/
noncomputable def F46_code : Code := Try.f46.body.getD .skip
theorem F46_code_ok : okC Try.prog Try.f46.ntmps F46_code = true := by kernel_rfl
def F46_1C (Kr : Value → Value → World → Prop) : Post := fun o t w => match o with | .normal => False | .exit i => (False) | .ret => Kr (t 12) (t 13) w
def F46_1 (Kr : Value → Value → World → Prop) (x0 : Value) (x2 : Value) (x3 : Value) (x4 : Value) (x5 : Value) (x14 : Value) (x15 : Value) (w : World) : Prop :=
  rdP x0 fun p1 => rdI .i64 x2 fun n2 => rdC x3 fun l3a l3n l3c => rdI .i64 x4 fun n4 => rdB x5 fun b5 => rdP x14 fun p6 => rdI .i64 x15 fun n7 => nn p1 fun a8 => ldC (a8.add 1) w fun l9a l9n l9c => ixS 1 l9a l9n n2 fun a10 => ldB a10 w fun b11 => br b11 (nn p6 fun a12 => ldI .i64 ((a12.add 1).add 2) w fun n13 => nn p6 fun a14 => stc ((a14.add 1).add 2) (.int .i64 (IntKind.wrap .i64 (n13 + 1))) w fun w15 => Kr (.int .i64 n7) (.int .i64 0) w15) (drw w fun w16 => nn p6 fun a17 => ldC (a17.add 0) w16 fun l18a l18n l18c => ∃ l19a l19n l19c w20, Sem.run Try.prog (Instr.buildSlice 23 0 #[]) w16 = .ok (.slice l19a l19n l19c) w20 ∧ (Pres w16 w20 ∧ (∃ l21a l21n l21c w22, Sem.run Try.prog (Builtin.append_ #[23, 23] 23 #[(.slice l19a l19n l19c), (.slice l3a l3n l3c)]) w20 = .ok (.slice l21a l21n l21c) w22 ∧ (Pres w16 w22 ∧ (alc (.cells #[(.int .i64 n7), (.int .i64 n4), (.int .i64 (l3n : Int)), (.bool b5), (.slice l21a l21n l21c)] 102) w22 fun b23 w24 => Pres w16 w24 ∧ (∃ l25a l25n l25c w26, Sem.run Try.prog (Builtin.append_ #[96, 96] 96 #[(.slice l18a l18n l18c), (.slice (some (Addr.mk b23 0 none)) 1 1)]) w24 = .ok (.slice l25a l25n l25c) w26 ∧ (nn p6 fun a27 => stc (a27.add 0) (.slice l25a l25n l25c) w26 fun w28 => Kr (.int .i64 n7) (.int .i64 0) w28)))))))
def F46_1O (Q : Post) (t : Tm) (w : World) : Prop := F46_1 (fun y12 y13 w => ∀ g, rsh [(12, (.one (.int .i64))), (13, (.one (.int .i64)))] (upds g [(12, y12), (13, y13)]) fun t => Q .ret t w) (t 0) (t 2) (t 3) (t 4) (t 5) (t 14) (t 15) w
theorem F46_1_step (Kr : Value → Value → World → Prop) (t : Tm) (w : World) : (F46_1 Kr (t 0) (t 2) (t 3) (t 4) (t 5) (t 14) (t 15) w) = rsh [(0, (.one .ptr)), (2, (.one (.int .i64))), (3, (.one .slc)), (4, (.one (.int .i64))), (5, (.one .bool)), (14, (.one .ptr)), (15, (.one (.int .i64)))] t (fun t => vc Try.prog (orcOf []) [1, 1, 1, 1, 1, 1, 1, 1, 1] (getAt F46_code [1, 1, 1, 1, 1, 1, 1, 1, 1]) (F46_1C Kr) t w) := by kernel_rfl
theorem F46_1_ok : ∀ Q t w, F46_1O Q t w → W Try.prog Try.f46.ntmps (getAt F46_code [1, 1, 1, 1, 1, 1, 1, 1, 1]) Q t w := by
  intro Q t w h
  unfold F46_1O at h
  rw [F46_1_step] at h
  refine (vc_sound mixed (orcNil F46_code) _ _ rfl (okC_at F46_code_ok [1, 1, 1, 1, 1, 1, 1, 1, 1]) _ _ _ (rsh_out h)).mono ?_
  intro o t w q
  cases o with
  | normal => exact q.elim
  | exit i => exact q.elim
  | ret => exact out_ok [12, 13] q
def F46_2C (Kr : Value → Value → World → Prop) : Post := fun o t w => match o with | .normal => False | .exit i => (False) | .ret => Kr (t 12) (t 13) w
def F46_2 (Kr : Value → Value → World → Prop) (x0 : Value) (x1 : Value) (x2 : Value) (x3 : Value) (x4 : Value) (x5 : Value) (w : World) : Prop :=
  rdP x0 fun p1 => rdI .i64 x1 fun n2 => rdI .i64 x2 fun n3 => rdC x3 fun l4a l4n l4c => rdI .i64 x4 fun n5 => rdB x5 fun b6 => br (decide (((l4n : Int) : Int) > 65536)) (Kr (.int .i64 0) (.int .i64 2) w) (nn p1 fun a7 => ldC (a7.add 0) w fun l8a l8n l8c => ixS 1 l8a l8n n3 fun a9 => ldC a9 w fun l10a l10n l10c => ixS 5 l10a l10n n2 fun a11 => ldC (a11.add 0) w fun l12a l12n l12c => br (decide (((l12n : Int) : Int) ≥ 4096)) (Kr (.int .i64 0) (.int .i64 3) w) (nn p1 fun a13 => ldI .i64 (a13.add 2) w fun n14 => nn p1 fun a15 => ldI .i64 (a15.add 2) w fun n16 => nn p1 fun a17 => stc (a17.add 2) (.int .i64 (IntKind.wrap .i64 (n16 + 1))) w fun w18 => br b6 (ldI .i64 ((a11.add 1).add 3) w18 fun n19 => stc ((a11.add 1).add 3) (.int .i64 (IntKind.wrap .i64 (n19 + 1))) w18 fun w20 => F46_1 (fun y12_20 y13_20 w22 => ∀ _g23 : Tm, rdI .i64 y12_20 fun n24 => rdI .i64 y13_20 fun n25 => Kr (.int .i64 n24) (.int .i64 n25) w22) (.pointer p1) (.int .i64 n3) (.slice l4a l4n l4c) (.int .i64 n5) (.bool b6) (.pointer (some a11)) (.int .i64 n14) w20) (ldI .i64 ((a11.add 1).add 0) w18 fun n26 => stc ((a11.add 1).add 0) (.int .i64 (IntKind.wrap .i64 (n26 + 1))) w18 fun w27 => F46_1 (fun y12_27 y13_27 w29 => ∀ _g30 : Tm, rdI .i64 y12_27 fun n31 => rdI .i64 y13_27 fun n32 => Kr (.int .i64 n31) (.int .i64 n32) w29) (.pointer p1) (.int .i64 n3) (.slice l4a l4n l4c) (.int .i64 n5) (.bool b6) (.pointer (some a11)) (.int .i64 n14) w27)))
def F46_2O (Q : Post) (t : Tm) (w : World) : Prop := F46_2 (fun y12 y13 w => ∀ g, rsh [(12, (.one (.int .i64))), (13, (.one (.int .i64)))] (upds g [(12, y12), (13, y13)]) fun t => Q .ret t w) (t 0) (t 1) (t 2) (t 3) (t 4) (t 5) w
theorem F46_2_step (Kr : Value → Value → World → Prop) (t : Tm) (w : World) : (F46_2 Kr (t 0) (t 1) (t 2) (t 3) (t 4) (t 5) w) = rsh [(0, (.one .ptr)), (1, (.one (.int .i64))), (2, (.one (.int .i64))), (3, (.one .slc)), (4, (.one (.int .i64))), (5, (.one .bool))] t (fun t => vc Try.prog (orcOf [([1, 1, 1, 1, 1, 1, 1, 1, 1], F46_1O)]) [1, 1, 1] (getAt F46_code [1, 1, 1]) (F46_2C Kr) t w) := by kernel_rfl
theorem F46_2_ok : ∀ Q t w, F46_2O Q t w → W Try.prog Try.f46.ntmps (getAt F46_code [1, 1, 1]) Q t w := by
  intro Q t w h
  unfold F46_2O at h
  rw [F46_2_step] at h
  refine (vc_sound mixed (orcCons (π := [1, 1, 1, 1, 1, 1, 1, 1, 1]) F46_1_ok (orcNil F46_code)) _ _ rfl (okC_at F46_code_ok [1, 1, 1]) _ _ _ (rsh_out h)).mono ?_
  intro o t w q
  cases o with
  | normal => exact q.elim
  | exit i => exact q.elim
  | ret => exact out_ok [12, 13] q
def F46 (x0 : Value) (x1 : Value) (x2 : Value) (x3 : Value) (x4 : Value) (x5 : Value) (w : World) (K : Value → World → Prop) : Prop :=
  rdP x0 fun p1 => rdI .i64 x1 fun n2 => rdI .i64 x2 fun n3 => rdC x3 fun l4a l4n l4c => rdI .i64 x4 fun n5 => rdB x5 fun b6 => Calls Try.prog 49 #[(.pointer p1), (.int .i64 n2), (.int .i64 n3)] w fun e9 w8 => ∃ b7, e9 = .returned (.bool b7) ∧ (br (!b7) (K (.tuple #[(.int .i64 0), (.int .i64 90)]) w8) (br (decide ((n5 : Int) < 0)) (K (.tuple #[(.int .i64 0), (.int .i64 1)]) w8) (br (decide ((n5 : Int) > 1099511627776)) (K (.tuple #[(.int .i64 0), (.int .i64 1)]) w8) (F46_2 (fun y12_9 y13_9 w11 => ∀ _g12 : Tm, rdI .i64 y12_9 fun n13 => rdI .i64 y13_9 fun n14 => K (.tuple #[(.int .i64 n13), (.int .i64 n14)]) w11) (.pointer p1) (.int .i64 n2) (.int .i64 n3) (.slice l4a l4n l4c) (.int .i64 n5) (.bool b6) w8))))
theorem F46_step (x0 : Value) (x1 : Value) (x2 : Value) (x3 : Value) (x4 : Value) (x5 : Value) (w : World) (K : Value → World → Prop) : (F46 x0 x1 x2 x3 x4 x5 w K) = rsh [(0, (.one .ptr)), (1, (.one (.int .i64))), (2, (.one (.int .i64))), (3, (.one .slc)), (4, (.one (.int .i64))), (5, (.one .bool))] (args0 #[x0, x1, x2, x3, x4, x5]) (fun t => vc Try.prog (orcOf [([1, 1, 1, 1, 1, 1, 1, 1, 1], F46_1O), ([1, 1, 1], F46_2O)]) [] F46_code (retQ Try.prog Try.f46 K) t w) := by kernel_rfl
theorem F46_ok {x0 x1 x2 x3 x4 x5 : Value} {w : World} {K : Value → World → Prop} (h : F46 x0 x1 x2 x3 x4 x5 w K) : Calls Try.prog 46 #[x0, x1, x2, x3, x4, x5] w fun e w' => ∃ v, e = .returned v ∧ K v w' := by
  rw [F46_step] at h
  exact calls_of (c := F46_code) mixed Try.func46 rfl (nlt rfl) (vc_sound mixed (orcCons (π := [1, 1, 1, 1, 1, 1, 1, 1, 1]) F46_1_ok (orcCons (π := [1, 1, 1]) F46_2_ok (orcNil F46_code))) F46_code [] rfl F46_code_ok _ _ _ (rsh_out h))

/-! (*ropewalk/ropewalkref09.Net).at -/
noncomputable def F47_code : Code := Try.f47.body.getD .skip
theorem F47_code_ok : okC Try.prog Try.f47.ntmps F47_code = true := by kernel_rfl
def F47 (x0 : Value) (x1 : Value) (x2 : Value) (x3 : Value) (w : World) (K : Value → World → Prop) : Prop :=
  rdP x0 fun p1 => rdI .i64 x1 fun n2 => rdI .i64 x2 fun n3 => rdI .i64 x3 fun n4 => Calls Try.prog 49 #[(.pointer p1), (.int .i64 n2), (.int .i64 n3)] w fun e7 w6 => ∃ b5, e7 = .returned (.bool b5) ∧ (br (!b5) (K (.int .i64 90) w6) (br (decide ((n4 : Int) < 0)) (K (.int .i64 91) w6) (nn p1 fun a8 => ldC (a8.add 0) w6 fun l9a l9n l9c => ixS 1 l9a l9n n3 fun a10 => ldC a10 w6 fun l11a l11n l11c => ixS 5 l11a l11n n2 fun a12 => ldC (a12.add 0) w6 fun l13a l13n l13c => br (decide ((n4 : Int) ≥ (l13n : Int))) (K (.int .i64 91) w6) (K (.int .i64 0) w6))))
theorem F47_step (x0 : Value) (x1 : Value) (x2 : Value) (x3 : Value) (w : World) (K : Value → World → Prop) : (F47 x0 x1 x2 x3 w K) = rsh [(0, (.one .ptr)), (1, (.one (.int .i64))), (2, (.one (.int .i64))), (3, (.one (.int .i64)))] (args0 #[x0, x1, x2, x3]) (fun t => vc Try.prog (orcOf []) [] F47_code (retQ Try.prog Try.f47 K) t w) := by kernel_rfl
theorem F47_ok {x0 x1 x2 x3 : Value} {w : World} {K : Value → World → Prop} (h : F47 x0 x1 x2 x3 w K) : Calls Try.prog 47 #[x0, x1, x2, x3] w fun e w' => ∃ v, e = .returned v ∧ K v w' := by
  rw [F47_step] at h
  exact calls_of (c := F47_code) mixed Try.func47 rfl (nlt rfl) (vc_sound mixed (orcNil F47_code) F47_code [] rfl F47_code_ok _ _ _ (rsh_out h))

/-! (*ropewalk/ropewalkref09.Net).out -/
noncomputable def F48_code : Code := Try.f48.body.getD .skip
theorem F48_code_ok : okC Try.prog Try.f48.ntmps F48_code = true := by kernel_rfl
def F48 (x0 : Value) (x1 : Value) (x2 : Value) (x3 : Value) (w : World) (K : Value → World → Prop) : Prop :=
  rdP x0 fun p1 => rdI .i64 x1 fun n2 => rdI .i64 x2 fun n3 => rdI .i64 x3 fun n4 => nn p1 fun a5 => ldC (a5.add 0) w fun l6a l6n l6c => ixS 1 l6a l6n n3 fun a7 => ldC a7 w fun l8a l8n l8c => ixS 5 l8a l8n n2 fun a9 => ldC (a9.add 0) w fun l10a l10n l10c => ixS 5 l10a l10n n4 fun a11 => ldC (a11.add 4) w fun l12a l12n l12c => drw w fun w13 => ldC (a9.add 0) w13 fun l14a l14n l14c => slS 5 l14a l14n l14c none (some (.int .i64 n4)) fun l15a l15n l15c => ldC (a9.add 0) w13 fun l16a l16n l16c => slS 5 l16a l16n l16c (some (.int .i64 (IntKind.wrap .i64 (n4 + 1)))) none fun l17a l17n l17c => ∃ l18a l18n l18c w19, Sem.run Try.prog (Instr.buildSlice 96 0 #[]) w13 = .ok (.slice l18a l18n l18c) w19 ∧ (Pres w13 w19 ∧ (∃ l20a l20n l20c w21, Sem.run Try.prog (Builtin.append_ #[96, 96] 96 #[(.slice l18a l18n l18c), (.slice l15a l15n l15c)]) w19 = .ok (.slice l20a l20n l20c) w21 ∧ (Pres w13 w21 ∧ (∃ l22a l22n l22c w23, Sem.run Try.prog (Builtin.append_ #[96, 96] 96 #[(.slice l20a l20n l20c), (.slice l17a l17n l17c)]) w21 = .ok (.slice l22a l22n l22c) w23 ∧ (stc (a9.add 0) (.slice l22a l22n l22c) w23 fun w24 => K (.slice l12a l12n l12c) w24)))))
theorem F48_step (x0 : Value) (x1 : Value) (x2 : Value) (x3 : Value) (w : World) (K : Value → World → Prop) : (F48 x0 x1 x2 x3 w K) = rsh [(0, (.one .ptr)), (1, (.one (.int .i64))), (2, (.one (.int .i64))), (3, (.one (.int .i64)))] (args0 #[x0, x1, x2, x3]) (fun t => vc Try.prog (orcOf []) [] F48_code (retQ Try.prog Try.f48 K) t w) := by kernel_rfl
theorem F48_ok {x0 x1 x2 x3 : Value} {w : World} {K : Value → World → Prop} (h : F48 x0 x1 x2 x3 w K) : Calls Try.prog 48 #[x0, x1, x2, x3] w fun e w' => ∃ v, e = .returned v ∧ K v w' := by
  rw [F48_step] at h
  exact calls_of (c := F48_code) mixed Try.func48 rfl (nlt rfl) (vc_sound mixed (orcNil F48_code) F48_code [] rfl F48_code_ok _ _ _ (rsh_out h))

/-! (*ropewalk/ropewalkref09.Net).Has -/
noncomputable def F49_code : Code := Try.f49.body.getD .skip
theorem F49_code_ok : okC Try.prog Try.f49.ntmps F49_code = true := by kernel_rfl
def F49 (x0 : Value) (x1 : Value) (x2 : Value) (w : World) (K : Value → World → Prop) : Prop :=
  rdP x0 fun p1 => rdI .i64 x1 fun n2 => rdI .i64 x2 fun n3 => br (n2 == 0) (br (decide ((n3 : Int) ≥ 0)) (nn p1 fun a4 => ldC (a4.add 0) w fun l5a l5n l5c => K (.bool (decide ((n3 : Int) < (l5n : Int)))) w) (K (.bool false) w)) (br (n2 == 1) (br (decide ((n3 : Int) ≥ 0)) (nn p1 fun a6 => ldC (a6.add 0) w fun l7a l7n l7c => K (.bool (decide ((n3 : Int) < (l7n : Int)))) w) (K (.bool false) w)) (K (.bool false) w))
theorem F49_step (x0 : Value) (x1 : Value) (x2 : Value) (w : World) (K : Value → World → Prop) : (F49 x0 x1 x2 w K) = rsh [(0, (.one .ptr)), (1, (.one (.int .i64))), (2, (.one (.int .i64)))] (args0 #[x0, x1, x2]) (fun t => vc Try.prog (orcOf []) [] F49_code (retQ Try.prog Try.f49 K) t w) := by kernel_rfl
theorem F49_ok {x0 x1 x2 : Value} {w : World} {K : Value → World → Prop} (h : F49 x0 x1 x2 w K) : Calls Try.prog 49 #[x0, x1, x2] w fun e w' => ∃ v, e = .returned v ∧ K v w' := by
  rw [F49_step] at h
  exact calls_of (c := F49_code) mixed Try.func49 rfl (nlt rfl) (vc_sound mixed (orcNil F49_code) F49_code [] rfl F49_code_ok _ _ _ (rsh_out h))

/-! slices.Delete[[]ropewalk/net.packet,ropewalk/net.packet] -/
noncomputable def F50_code : Code := Try.f50.body.getD .skip
theorem F50_code_ok : okC Try.prog Try.f50.ntmps F50_code = true := by kernel_rfl
def F50 (x0 : Value) (x1 : Value) (x2 : Value) (w : World) (K : Value → World → Prop) : Prop :=
  rdC x0 fun l1a l1n l1c => rdI .i64 x1 fun n2 => rdI .i64 x2 fun n3 => ∃ l4a l4n l4c w5, Sem.run Try.prog (Instr.sliceAt 67 (.slice l1a l1n l1c) (some (.int .i64 n2)) (some (.int .i64 n3)) (some (.int .i64 (l1n : Int)))) w = .ok (.slice l4a l4n l4c) w5 ∧ (br (n2 == n3) (K (.slice l1a l1n l1c) w5) (drw w5 fun w6 => slS 5 l1a l1n l1c none (some (.int .i64 n2)) fun l7a l7n l7c => slS 5 l1a l1n l1c (some (.int .i64 n3)) none fun l8a l8n l8c => ∃ l9a l9n l9c w10, Sem.run Try.prog (Builtin.append_ #[67, 67] 67 #[(.slice l7a l7n l7c), (.slice l8a l8n l8c)]) w6 = .ok (.slice l9a l9n l9c) w10 ∧ (slS 5 l9a l9n l9c (some (.int .i64 (l9n : Int))) (some (.int .i64 (l1n : Int))) fun l11a l11n l11c => ∃ w12, Sem.run Try.prog (Builtin.clear_ #[67] 0 #[(.slice l11a l11n l11c)]) w10 = .ok (.tuple #[]) w12 ∧ (K (.slice l9a l9n l9c) w12))))
theorem F50_step (x0 : Value) (x1 : Value) (x2 : Value) (w : World) (K : Value → World → Prop) : (F50 x0 x1 x2 w K) = rsh [(0, (.one .slc)), (1, (.one (.int .i64))), (2, (.one (.int .i64)))] (args0 #[x0, x1, x2]) (fun t => vc Try.prog (orcOf []) [] F50_code (retQ Try.prog Try.f50 K) t w) := by kernel_rfl
theorem F50_ok {x0 x1 x2 : Value} {w : World} {K : Value → World → Prop} (h : F50 x0 x1 x2 w K) : Calls Try.prog 50 #[x0, x1, x2] w fun e w' => ∃ v, e = .returned v ∧ K v w' := by
  rw [F50_step] at h
  exact calls_of (c := F50_code) mixed Try.func50 rfl (nlt rfl) (vc_sound mixed (orcNil F50_code) F50_code [] rfl F50_code_ok _ _ _ (rsh_out h))

/-! (*ropewalk/net.lane).lose -/
noncomputable def F51_code : Code := Try.f51.body.getD .skip
theorem F51_code_ok : okC Try.prog Try.f51.ntmps F51_code = true := by kernel_rfl
def F51 (x0 : Value) (w : World) (K : Value → World → Prop) : Prop :=
  rdP x0 fun p1 => drw w fun w2 => nn p1 fun a3 => ldI .i64 ((a3.add 0).add 2) w2 fun n4 => nn p1 fun a5 => ldC (a5.add 4) w2 fun l6a l6n l6c => nn p1 fun a7 => stc ((a7.add 0).add 2) (.int .i64 (IntKind.wrap .i64 (n4 + (l6n : Int)))) w2 fun w8 => nn p1 fun a9 => stc (a9.add 4) (.slice none 0 0) w8 fun w10 => K (.tuple #[]) w10
theorem F51_step (x0 : Value) (w : World) (K : Value → World → Prop) : (F51 x0 w K) = rsh [(0, (.one .ptr))] (args0 #[x0]) (fun t => vc Try.prog (orcOf []) [] F51_code (retQ Try.prog Try.f51 K) t w) := by kernel_rfl
theorem F51_ok {x0 : Value} {w : World} {K : Value → World → Prop} (h : F51 x0 w K) : Calls Try.prog 51 #[x0] w fun e w' => ∃ v, e = .returned v ∧ K v w' := by
  rw [F51_step] at h
  exact calls_of (c := F51_code) mixed Try.func51 rfl (nlt rfl) (vc_sound mixed (orcNil F51_code) F51_code [] rfl F51_code_ok _ _ _ (rsh_out h))
end Go.Proofs.Ytnmgdeimngcbgaa
