/- Own text: part of the shallow reading of the code and of the contracts that are proved over it. -/
import Derived.Test.YtdagfdejjfobhaaShO
import Derived.Test.YtdagfdejjfobhaaProg
import Derived.KernelRfl
namespace Go.Proofs.Ytdagfdejjfobhaa
open Go Go.Sh
set_option maxRecDepth 100000
theorem mixed : Try.prog.follows .mixedOrders = true := by kernel_rfl
structure R38 where
  f0 : Int
  f1 : Int
  f2 : Int
def R38.l (s : R38) : List Value := [.int .i64 s.f0, .int .i64 s.f1, .int .i64 s.f2]
def R38.c (s : R38) : Array Value := #[.int .i64 s.f0, .int .i64 s.f1, .int .i64 s.f2]
def R38.v (s : R38) : Value := .agg #[.int .i64 s.f0, .int .i64 s.f1, .int .i64 s.f2]
def ldR38 (a : Addr) (w : World) (K : R38 → Prop) : Prop := ldI .i64 (a.add 0) w fun f0 => ldI .i64 (a.add 1) w fun f1 => ldI .i64 (a.add 2) w fun f2 => K ⟨f0, f1, f2⟩
def exR38 (K : R38 → Prop) : Prop := ∃ f0 f1 f2, K ⟨f0, f1, f2⟩
theorem exR38_of {K : R38 → Prop} (s : R38) (k : K s) : exR38 K := ⟨s.f0, s.f1, s.f2, k⟩
theorem ldR38_of {a : Addr} {w : World} {s : R38} {K : R38 → Prop} (h : At w a s.l) (k : K s) : ldR38 a w K := (ldI_c (h 0 _ rfl) (ldI_c (h 1 _ rfl) (ldI_c (h 2 _ rfl) k)))
def R38.z : R38 := ⟨0, 0, 0⟩
theorem R38.c_size (s : R38) : s.c.size = 3 := rfl
theorem R38.l_len (s : R38) : s.l.length = 3 := rfl
theorem R38.c_list (s : R38) : s.c.toList = s.l := rfl
/-! ropewalk/ropewalklaw08.TimersSteps -/
noncomputable def F3_code : Code := Try.f3.body.getD .skip
theorem F3_code_ok : okC Try.prog Try.f3.ntmps F3_code = true := by kernel_rfl
def F3_1C (K2 : Value → Value → Value → Value → World → Prop) : Post := fun o t w => match o with | .normal => False | .exit i => (match Nat.beq i 2 with | true => K2 (t 2) (t 7) (t 8) (t 10) w | false => False) | .ret => False
def F3_1B (R : Value → Value → Value → Value → Value → Value → World → Prop) (K2 : Value → Value → Value → Value → World → Prop) (x1 : Value) (x2 : Value) (x7 : Value) (x8 : Value) (x10 : Value) (x11 : Value) (w : World) : Prop :=
  rdC x1 fun l1a l1n l1c => rdI .i64 x2 fun n2 => rdP x7 fun p3 => rdP x8 fun p4 => rdC x10 fun l5a l5n l5c => rdI .i64 x11 fun n6 => br (decide ((n6 : Int) < (l1n : Int))) (ixS 1 l1a l1n n6 fun a7 => ldI .i64 a7 w fun n8 => br (decide ((n8 : Int) ≤ n2)) (ixS 1 l1a l1n n6 fun a9 => ldI .i64 a9 w fun n10 => Calls Try.prog 10 #[(.pointer p3), (.int .i64 n10)] w fun e12 w11 => ∃ l13a l13n l13c, ∃ n14, e12 = .returned (.tuple #[(.slice l13a l13n l13c), (.int .i64 n14)]) ∧ (∃ l15a l15n l15c w16, Sem.run Try.prog (Builtin.append_ #[22, 22] 22 #[(.slice l5a l5n l5c), (.slice l13a l13n l13c)]) w11 = .ok (.slice l15a l15n l15c) w16 ∧ (R (.slice l1a l1n l1c) (.int .i64 n2) (.pointer p3) (.pointer p4) (.slice l15a l15n l15c) (.int .i64 (IntKind.wrap .i64 (n6 + 1))) w16))) (R (.slice l1a l1n l1c) (.int .i64 n2) (.pointer p3) (.pointer p4) (.slice l5a l5n l5c) (.int .i64 (IntKind.wrap .i64 (n6 + 1))) w)) (K2 (.int .i64 n2) (.pointer p3) (.pointer p4) (.slice l5a l5n l5c) w)
def F3_1 (K2 : Value → Value → Value → Value → World → Prop) : Nat → Value → Value → Value → Value → Value → Value → World → Prop
  | 0 => fun _ _ _ _ _ _ _ => False
  | n + 1 => F3_1B (F3_1 K2 n) K2
def F3_1O (Q : Post) (t : Tm) (w : World) : Prop := ∃ n, F3_1 (fun y2 y7 y8 y10 w => ∀ g, rsh [(2, (.one (.int .i64))), (7, (.one .ptr)), (8, (.one .ptr)), (10, (.one .slc))] (upds g [(2, y2), (7, y7), (8, y8), (10, y10)]) fun t => Q (.exit 2) t w) n (t 1) (t 2) (t 7) (t 8) (t 10) (t 11) w
theorem F3_1_step (K2 : Value → Value → Value → Value → World → Prop) (n : Nat) (t : Tm) (w : World) : (F3_1 K2 (n + 1) (t 1) (t 2) (t 7) (t 8) (t 10) (t 11) w) = rsh [(1, (.one .slc)), (2, (.one (.int .i64))), (7, (.one .ptr)), (8, (.one .ptr)), (10, (.one .slc)), (11, (.one (.int .i64)))] t (fun t => vc Try.prog (orcOf []) [0, 0, 1, 0, 1, 1, 1, 1, 1] (getAt F3_code [0, 0, 1, 0, 1, 1, 1, 1, 1]) (fun o t w => match o with | .normal => F3_1 K2 n (t 1) (t 2) (t 7) (t 8) (t 10) (t 11) w | .exit i => F3_1C K2 (.exit i) t w | .ret => F3_1C K2 .ret t w) t w) := by kernel_rfl
theorem F3_1_ok : ∀ Q t w, F3_1O Q t w → W Try.prog Try.f3.ntmps (getAt F3_code [0, 1, 0, 1, 1, 1, 1, 1]) Q t w := by
  intro Q t w ⟨n, h⟩
  refine (W_loop (P := Try.prog) (b := getAt F3_code [0, 0, 1, 0, 1, 1, 1, 1, 1]) (Q := F3_1C (fun y2 y7 y8 y10 w => ∀ g, rsh [(2, (.one (.int .i64))), (7, (.one .ptr)), (8, (.one .ptr)), (10, (.one .slc))] (upds g [(2, y2), (7, y7), (8, y8), (10, y10)]) fun t => Q (.exit 2) t w)) (G := fun n t w => F3_1 (fun y2 y7 y8 y10 w => ∀ g, rsh [(2, (.one (.int .i64))), (7, (.one .ptr)), (8, (.one .ptr)), (10, (.one .slc))] (upds g [(2, y2), (7, y7), (8, y8), (10, y10)]) fun t => Q (.exit 2) t w) n (t 1) (t 2) (t 7) (t 8) (t 10) (t 11) w) (fun _ _ h => h) (fun n t w h => ?_) n t w h).mono ?_
  · rw [F3_1_step] at h
    exact vc_sound mixed (orcNil F3_code) _ _ rfl (okC_at F3_code_ok [0, 0, 1, 0, 1, 1, 1, 1, 1]) _ _ _ (rsh_out h)
  · intro o t w q
    cases o with
    | normal => exact q.elim
    | exit i =>
      unfold F3_1C at q
      simp only at q
      split at q
      · rename_i hi
        rw [nbeq] at hi
        subst hi
        exact out_ok [2, 7, 8, 10] q
      · exact q.elim
    | ret => exact q.elim
def F3_2C (K0 : Value → Value → Value → Value → World → Prop) (Kr : Value → World → Prop) : Post := fun o t w => match o with | .normal => False | .exit i => (match Nat.beq i 0 with | true => K0 (t 1) (t 2) (t 7) (t 8) w | false => False) | .ret => Kr (t 6) w
def F3_2B (R : Value → Value → Value → Value → Value → Value → World → Prop) (K0 : Value → Value → Value → Value → World → Prop) (Kr : Value → World → Prop) (x0 : Value) (x1 : Value) (x2 : Value) (x7 : Value) (x8 : Value) (x9 : Value) (w : World) : Prop :=
  rdC x0 fun l1a l1n l1c => rdC x1 fun l2a l2n l2c => rdI .i64 x2 fun n3 => rdP x7 fun p4 => rdP x8 fun p5 => rdI .i64 x9 fun n6 => br (decide ((n6 : Int) < (l1n : Int))) (drw w fun w7 => ∃ w8 : World, Pres w8 w7 ∧ (ixS 2 l1a l1n n6 fun a9 => ldI .i64 (a9.add 0) w7 fun n10 => ixS 2 l1a l1n n6 fun a11 => ldI .i64 (a11.add 1) w7 fun n12 => ixS 2 l1a l1n n6 fun a13 => ldI .i64 (a13.add 0) w8 fun n14 => ixS 2 l1a l1n n6 fun a15 => ldI .i64 (a15.add 1) w8 fun n16 => Calls Try.prog 9 #[(.pointer p4), (.int .i64 n10), (.int .i64 n12)] w7 fun e18 w17 => ∃ n19, e18 = .returned (.int .i64 n19) ∧ (Pres w8 w17 ∧ (Calls Try.prog 9 #[(.pointer p5), (.int .i64 n14), (.int .i64 n16)] w17 fun e21 w20 => ∃ n22, e21 = .returned (.int .i64 n22) ∧ (br (n19 != n22) (Kr (.bool false) w20) (R (.slice l1a l1n l1c) (.slice l2a l2n l2c) (.int .i64 n3) (.pointer p4) (.pointer p5) (.int .i64 (IntKind.wrap .i64 (n6 + 1))) w20)))))) (K0 (.slice l2a l2n l2c) (.int .i64 n3) (.pointer p4) (.pointer p5) w)
def F3_2 (K0 : Value → Value → Value → Value → World → Prop) (Kr : Value → World → Prop) : Nat → Value → Value → Value → Value → Value → Value → World → Prop
  | 0 => fun _ _ _ _ _ _ _ => False
  | n + 1 => F3_2B (F3_2 K0 Kr n) K0 Kr
def F3_2O (Q : Post) (t : Tm) (w : World) : Prop := ∃ n, F3_2 (fun y1 y2 y7 y8 w => ∀ g, rsh [(1, (.one .slc)), (2, (.one (.int .i64))), (7, (.one .ptr)), (8, (.one .ptr))] (upds g [(1, y1), (2, y2), (7, y7), (8, y8)]) fun t => Q (.exit 0) t w) (fun y6 w => ∀ g, rsh [(6, (.one .bool))] (upds g [(6, y6)]) fun t => Q .ret t w) n (t 0) (t 1) (t 2) (t 7) (t 8) (t 9) w
theorem F3_2_step (K0 : Value → Value → Value → Value → World → Prop) (Kr : Value → World → Prop) (n : Nat) (t : Tm) (w : World) : (F3_2 K0 Kr (n + 1) (t 0) (t 1) (t 2) (t 7) (t 8) (t 9) w) = rsh [(0, (.one .slc)), (1, (.one .slc)), (2, (.one (.int .i64))), (7, (.one .ptr)), (8, (.one .ptr)), (9, (.one (.int .i64)))] t (fun t => vc Try.prog (orcOf []) [0, 0, 1, 0, 1, 1, 1] (getAt F3_code [0, 0, 1, 0, 1, 1, 1]) (fun o t w => match o with | .normal => F3_2 K0 Kr n (t 0) (t 1) (t 2) (t 7) (t 8) (t 9) w | .exit i => F3_2C K0 Kr (.exit i) t w | .ret => F3_2C K0 Kr .ret t w) t w) := by kernel_rfl
theorem F3_2_ok : ∀ Q t w, F3_2O Q t w → W Try.prog Try.f3.ntmps (getAt F3_code [0, 1, 0, 1, 1, 1]) Q t w := by
  intro Q t w ⟨n, h⟩
  refine (W_loop (P := Try.prog) (b := getAt F3_code [0, 0, 1, 0, 1, 1, 1]) (Q := F3_2C (fun y1 y2 y7 y8 w => ∀ g, rsh [(1, (.one .slc)), (2, (.one (.int .i64))), (7, (.one .ptr)), (8, (.one .ptr))] (upds g [(1, y1), (2, y2), (7, y7), (8, y8)]) fun t => Q (.exit 0) t w) (fun y6 w => ∀ g, rsh [(6, (.one .bool))] (upds g [(6, y6)]) fun t => Q .ret t w)) (G := fun n t w => F3_2 (fun y1 y2 y7 y8 w => ∀ g, rsh [(1, (.one .slc)), (2, (.one (.int .i64))), (7, (.one .ptr)), (8, (.one .ptr))] (upds g [(1, y1), (2, y2), (7, y7), (8, y8)]) fun t => Q (.exit 0) t w) (fun y6 w => ∀ g, rsh [(6, (.one .bool))] (upds g [(6, y6)]) fun t => Q .ret t w) n (t 0) (t 1) (t 2) (t 7) (t 8) (t 9) w) (fun _ _ h => h) (fun n t w h => ?_) n t w h).mono ?_
  · rw [F3_2_step] at h
    exact vc_sound mixed (orcNil F3_code) _ _ rfl (okC_at F3_code_ok [0, 0, 1, 0, 1, 1, 1]) _ _ _ (rsh_out h)
  · intro o t w q
    cases o with
    | normal => exact q.elim
    | exit i =>
      unfold F3_2C at q
      simp only at q
      split at q
      · rename_i hi
        rw [nbeq] at hi
        subst hi
        exact out_ok [1, 2, 7, 8] q
      · exact q.elim
    | ret => exact out_ok [6] q
def F3_3C (Kr : Value → World → Prop) : Post := fun o t w => match o with | .normal => False | .exit _ => (False) | .ret => Kr (t 6) w
def F3_3 (Kr : Value → World → Prop) (x0 : Value) (x1 : Value) (x2 : Value) (x7 : Value) (x8 : Value) (w : World) : Prop :=
  rdC x0 fun l1a l1n l1c => rdC x1 fun l2a l2n l2c => rdI .i64 x2 fun n3 => rdP x7 fun p4 => rdP x8 fun p5 => ∃ k50 : Nat, F3_2 (fun y1_5 y2_5 y7_5 y8_5 w7 => ∀ _g8 : Tm, rdC y1_5 fun l9a l9n l9c => rdI .i64 y2_5 fun n10 => rdP y7_5 fun p11 => rdP y8_5 fun p12 => ∃ k45 : Nat, F3_1 (fun y2_12 y7_12 y8_12 y10_12 w14 => ∀ _g15 : Tm, rdI .i64 y2_12 fun n16 => rdP y7_12 fun p17 => rdP y8_12 fun p18 => rdC y10_12 fun l19a l19n l19c => Calls Try.prog 10 #[(.pointer p17), (.int .i64 n16)] w14 fun e21 w20 => ∃ l22a l22n l22c, ∃ n23, e21 = .returned (.tuple #[(.slice l22a l22n l22c), (.int .i64 n23)]) ∧ (∃ l24a l24n l24c w25, Sem.run Try.prog (Builtin.append_ #[22, 22] 22 #[(.slice l19a l19n l19c), (.slice l22a l22n l22c)]) w20 = .ok (.slice l24a l24n l24c) w25 ∧ (Calls Try.prog 10 #[(.pointer p18), (.int .i64 n16)] w25 fun e27 w26 => ∃ l28a l28n l28c, ∃ n29, e27 = .returned (.tuple #[(.slice l28a l28n l28c), (.int .i64 n29)]) ∧ (Calls Try.prog 11 #[(.int .i64 n16)] w26 fun e31 w30 => ∃ b32, e31 = .returned (.bool b32) ∧ (br (!b32) (br (n23 == 80) (br (n29 == 80) (Kr (.bool ((IntKind.wrap .i64 ((l22n : Int) + (l28n : Int))) == 0)) w30) (Kr (.bool false) w30)) (Kr (.bool false) w30)) (br (n23 == 0) (br (n29 == 0) (Calls Try.prog 12 #[(.slice l24a l24n l24c), (.slice l28a l28n l28c)] w30 fun e34 w33 => ∃ b35, e34 = .returned (.bool b35) ∧ (br b35 (Calls Try.prog 13 #[(.pointer p17)] w33 fun e37 w36 => ∃ l38a l38n l38c, e37 = .returned (.slice l38a l38n l38c) ∧ (Calls Try.prog 13 #[(.pointer p18)] w36 fun e40 w39 => ∃ l41a l41n l41c, e40 = .returned (.slice l41a l41n l41c) ∧ (Calls Try.prog 12 #[(.slice l38a l38n l38c), (.slice l41a l41n l41c)] w39 fun e43 w42 => ∃ b44, e43 = .returned (.bool b44) ∧ (Kr (.bool b44) w42)))) (Kr (.bool false) w33))) (Kr (.bool false) w30)) (Kr (.bool false) w30))))))) k45 (.slice l9a l9n l9c) (.int .i64 n10) (.pointer p11) (.pointer p12) (.slice none 0 0) (.int .i64 0) w7) (fun y6_45 w47 => ∀ _g48 : Tm, rdB y6_45 fun b49 => Kr (.bool b49) w47) k50 (.slice l1a l1n l1c) (.slice l2a l2n l2c) (.int .i64 n3) (.pointer p4) (.pointer p5) (.int .i64 0) w
def F3_3O (Q : Post) (t : Tm) (w : World) : Prop := F3_3 (fun y6 w => ∀ g, rsh [(6, (.one .bool))] (upds g [(6, y6)]) fun t => Q .ret t w) (t 0) (t 1) (t 2) (t 7) (t 8) w
theorem F3_3_step (Kr : Value → World → Prop) (t : Tm) (w : World) : (F3_3 Kr (t 0) (t 1) (t 2) (t 7) (t 8) w) = rsh [(0, (.one .slc)), (1, (.one .slc)), (2, (.one (.int .i64))), (7, (.one .ptr)), (8, (.one .ptr))] t (fun t => vc Try.prog (orcOf [([0, 1, 0, 1, 1, 1, 1, 1], F3_1O), ([0, 1, 0, 1, 1, 1], F3_2O)]) [1, 1, 1] (getAt F3_code [1, 1, 1]) (F3_3C Kr) t w) := by kernel_rfl
theorem F3_3_ok : ∀ Q t w, F3_3O Q t w → W Try.prog Try.f3.ntmps (getAt F3_code [1, 1, 1]) Q t w := by
  intro Q t w h
  unfold F3_3O at h
  rw [F3_3_step] at h
  refine (vc_sound mixed (orcCons (π := [0, 1, 0, 1, 1, 1, 1, 1]) F3_1_ok (orcCons (π := [0, 1, 0, 1, 1, 1]) F3_2_ok (orcNil F3_code))) _ _ rfl (okC_at F3_code_ok [1, 1, 1]) _ _ _ (rsh_out h)).mono ?_
  intro o t w q
  cases o with
  | normal => exact q.elim
  | exit i => exact q.elim
  | ret => exact out_ok [6] q
def F3 (x0 : Value) (x1 : Value) (x2 : Value) (w : World) (K : Value → World → Prop) : Prop :=
  rdC x0 fun l1a l1n l1c => rdC x1 fun l2a l2n l2c => rdI .i64 x2 fun n3 => Calls Try.prog 7 #[] w fun e5 w4 => ∃ p6, e5 = .returned (.pointer p6) ∧ (Calls Try.prog 7 #[] w4 fun e8 w7 => ∃ p9, e8 = .returned (.pointer p9) ∧ (br (Option.isNone p6) (K (.bool false) w7) (br (Option.isNone p9) (K (.bool false) w7) (Calls Try.prog 8 #[] w7 fun e11 w10 => ∃ b12, e11 = .returned (.bool b12) ∧ (br (!b12) (K (.bool false) w10) (F3_3 (fun y6_12 w14 => ∀ _g15 : Tm, rdB y6_12 fun b16 => K (.bool b16) w14) (.slice l1a l1n l1c) (.slice l2a l2n l2c) (.int .i64 n3) (.pointer p6) (.pointer p9) w10))))))
theorem F3_step (x0 : Value) (x1 : Value) (x2 : Value) (w : World) (K : Value → World → Prop) : (F3 x0 x1 x2 w K) = rsh [(0, (.one .slc)), (1, (.one .slc)), (2, (.one (.int .i64)))] (args0 #[x0, x1, x2]) (fun t => vc Try.prog (orcOf [([0, 1, 0, 1, 1, 1, 1, 1], F3_1O), ([0, 1, 0, 1, 1, 1], F3_2O), ([1, 1, 1], F3_3O)]) [] F3_code (retQ Try.prog Try.f3 K) t w) := by kernel_rfl
theorem F3_ok {x0 x1 x2 : Value} {w : World} {K : Value → World → Prop} (h : F3 x0 x1 x2 w K) : Calls Try.prog 3 #[x0, x1, x2] w fun e w' => ∃ v, e = .returned v ∧ K v w' := by
  rw [F3_step] at h
  exact calls_of (c := F3_code) mixed Try.func3 rfl (nlt rfl) (vc_sound mixed (orcCons (π := [0, 1, 0, 1, 1, 1, 1, 1]) F3_1_ok (orcCons (π := [0, 1, 0, 1, 1, 1]) F3_2_ok (orcCons (π := [1, 1, 1]) F3_3_ok (orcNil F3_code)))) F3_code [] rfl F3_code_ok _ _ _ (rsh_out h))

/-! ropewalk/ropewalklaw08.TimersOnce -/
noncomputable def F4_code : Code := Try.f4.body.getD .skip
theorem F4_code_ok : okC Try.prog Try.f4.ntmps F4_code = true := by kernel_rfl
def F4_1C (Kn : Value → Value → Value → Value → Value → Value → World → Prop) : Post := fun o t w => match o with | .normal => Kn (t 0) (t 3) (t 4) (t 6) (t 9) (t 11) w | .exit _ => (False) | .ret => False
def F4_1 (Kn : Value → Value → Value → Value → Value → Value → World → Prop) (x0 : Value) (x3 : Value) (x4 : Value) (x6 : Value) (x9 : Value) (x11 : Value) (x12 : Value) (w : World) : Prop :=
  rdC x0 fun l1a l1n l1c => rdP x3 fun p2 => rdC x4 fun l3a l3n l3c => rdI .i64 x6 fun n4 => rdC x9 fun l5a l5n l5c => rdI .i64 x11 fun n6 => rdA x12 fun a7 => ldI .i64 (a7.add 0) w fun n8 => ixS 1 l3a l3n n8 fun a9 => stc a9 (.int .i64 (-1)) w fun w10 => Kn (.slice l1a l1n l1c) (.pointer p2) (.slice l3a l3n l3c) (.int .i64 n4) (.slice l5a l5n l5c) (.int .i64 n6) w10
def F4_1O (Q : Post) (t : Tm) (w : World) : Prop := F4_1 (fun y0 y3 y4 y6 y9 y11 w => ∀ g, rsh [(0, (.one .slc)), (3, (.one .ptr)), (4, (.one .slc)), (6, (.one (.int .i64))), (9, (.one .slc)), (11, (.one (.int .i64)))] (upds g [(0, y0), (3, y3), (4, y4), (6, y6), (9, y9), (11, y11)]) fun t => Q .normal t w) (t 0) (t 3) (t 4) (t 6) (t 9) (t 11) (t 12) w
theorem F4_1_step (Kn : Value → Value → Value → Value → Value → Value → World → Prop) (t : Tm) (w : World) : (F4_1 Kn (t 0) (t 3) (t 4) (t 6) (t 9) (t 11) (t 12) w) = rsh [(0, (.one .slc)), (3, (.one .ptr)), (4, (.one .slc)), (6, (.one (.int .i64))), (9, (.one .slc)), (11, (.one (.int .i64))), (12, (.one .adr))] t (fun t => vc Try.prog (orcOf []) [1, 1, 0, 0, 1, 0, 0, 1, 1, 0, 1, 1, 1, 1, 1, 0, 1, 0, 0, 1, 0, 0, 1, 0, 1, 1, 1, 1, 1] (getAt F4_code [1, 1, 0, 0, 1, 0, 0, 1, 1, 0, 1, 1, 1, 1, 1, 0, 1, 0, 0, 1, 0, 0, 1, 0, 1, 1, 1, 1, 1]) (F4_1C Kn) t w) := by kernel_rfl
theorem F4_1_ok : ∀ Q t w, F4_1O Q t w → W Try.prog Try.f4.ntmps (getAt F4_code [1, 1, 0, 0, 1, 0, 0, 1, 1, 0, 1, 1, 1, 1, 1, 0, 1, 0, 0, 1, 0, 0, 1, 0, 1, 1, 1, 1, 1]) Q t w := by
  intro Q t w h
  unfold F4_1O at h
  rw [F4_1_step] at h
  refine (vc_sound mixed (orcNil F4_code) _ _ rfl (okC_at F4_code_ok [1, 1, 0, 0, 1, 0, 0, 1, 1, 0, 1, 1, 1, 1, 1, 0, 1, 0, 0, 1, 0, 0, 1, 0, 1, 1, 1, 1, 1]) _ _ _ (rsh_out h)).mono ?_
  intro o t w q
  cases o with
  | normal => exact out_ok [0, 3, 4, 6, 9, 11] q
  | exit i => exact q.elim
  | ret => exact q.elim
def F4_2C (K5 : Value → Value → Value → Value → World → Prop) (Kr : Value → World → Prop) : Post := fun o t w => match o with | .normal => False | .exit i => (match Nat.beq i 5 with | true => K5 (t 0) (t 3) (t 4) (t 6) w | false => False) | .ret => Kr (t 2) w
def F4_2B (R : Value → Value → Value → Value → Value → Value → World → Prop) (K5 : Value → Value → Value → Value → World → Prop) (Kr : Value → World → Prop) (x0 : Value) (x3 : Value) (x4 : Value) (x6 : Value) (x9 : Value) (x11 : Value) (w : World) : Prop :=
  rdC x0 fun l1a l1n l1c => rdP x3 fun p2 => rdC x4 fun l3a l3n l3c => rdI .i64 x6 fun n4 => rdC x9 fun l5a l5n l5c => rdI .i64 x11 fun n6 => br (decide ((n6 : Int) < (l5n : Int))) (ixS 2 l5a l5n n6 fun a7 => ldI .i64 (a7.add 0) w fun n8 => ldI .i64 (a7.add 1) w fun n9 => alc (.cells #[(.int .i64 0), (.int .i64 0)] 30) w fun b10 w11 => stc ((Addr.mk b10 0 none).add 0) (.int .i64 n8) w11 fun w12 => stc ((Addr.mk b10 0 none).add 1) (.int .i64 n9) w12 fun w13 => drw w13 fun w14 => ldI .i64 ((Addr.mk b10 0 none).add 0) w14 fun n15 => Calls Try.prog 14 #[(.int .i64 n15)] w14 fun e17 w16 => ∃ b18, e17 = .returned (.bool b18) ∧ (br (!b18) (Kr (.bool false) w16) (ldI .i64 ((Addr.mk b10 0 none).add 0) w16 fun n19 => ixS 1 l3a l3n n19 fun a20 => ldI .i64 a20 w16 fun n21 => ldI .i64 ((Addr.mk b10 0 none).add 1) w16 fun n22 => br (n21 != n22) (Kr (.bool false) w16) (ldI .i64 ((Addr.mk b10 0 none).add 1) w16 fun n23 => ixS 3 l1a l1n n4 fun a24 => ldI .i64 (a24.add 2) w16 fun n25 => br (decide ((n23 : Int) > n25)) (Kr (.bool false) w16) (F4_1 (fun y0_25 y3_25 y4_25 y6_25 y9_25 y11_25 w27 => ∀ _g28 : Tm, rdC y0_25 fun l29a l29n l29c => rdP y3_25 fun p30 => rdC y4_25 fun l31a l31n l31c => rdI .i64 y6_25 fun n32 => rdC y9_25 fun l33a l33n l33c => rdI .i64 y11_25 fun n34 => R (.slice l29a l29n l29c) (.pointer p30) (.slice l31a l31n l31c) (.int .i64 n32) (.slice l33a l33n l33c) (.int .i64 (IntKind.wrap .i64 (n34 + 1))) w27) (.slice l1a l1n l1c) (.pointer p2) (.slice l3a l3n l3c) (.int .i64 n4) (.slice l5a l5n l5c) (.int .i64 n6) (.pointer (some (Addr.mk b10 0 none))) w16))))) (K5 (.slice l1a l1n l1c) (.pointer p2) (.slice l3a l3n l3c) (.int .i64 n4) w)
def F4_2 (K5 : Value → Value → Value → Value → World → Prop) (Kr : Value → World → Prop) : Nat → Value → Value → Value → Value → Value → Value → World → Prop
  | 0 => fun _ _ _ _ _ _ _ => False
  | n + 1 => F4_2B (F4_2 K5 Kr n) K5 Kr
def F4_2O (Q : Post) (t : Tm) (w : World) : Prop := ∃ n, F4_2 (fun y0 y3 y4 y6 w => ∀ g, rsh [(0, (.one .slc)), (3, (.one .ptr)), (4, (.one .slc)), (6, (.one (.int .i64)))] (upds g [(0, y0), (3, y3), (4, y4), (6, y6)]) fun t => Q (.exit 5) t w) (fun y2 w => ∀ g, rsh [(2, (.one .bool))] (upds g [(2, y2)]) fun t => Q .ret t w) n (t 0) (t 3) (t 4) (t 6) (t 9) (t 11) w
theorem F4_2_step (K5 : Value → Value → Value → Value → World → Prop) (Kr : Value → World → Prop) (n : Nat) (t : Tm) (w : World) : (F4_2 K5 Kr (n + 1) (t 0) (t 3) (t 4) (t 6) (t 9) (t 11) w) = rsh [(0, (.one .slc)), (3, (.one .ptr)), (4, (.one .slc)), (6, (.one (.int .i64))), (9, (.one .slc)), (11, (.one (.int .i64)))] t (fun t => vc Try.prog (orcOf [([1, 1, 0, 0, 1, 0, 0, 1, 1, 0, 1, 1, 1, 1, 1, 0, 1, 0, 0, 1, 0, 0, 1, 0, 1, 1, 1, 1, 1], F4_1O)]) [0, 0, 1, 1, 0, 1, 1, 1, 1, 1, 0, 1, 0, 0, 1, 0, 0, 1, 0, 1, 1, 1, 1, 1] (getAt F4_code [0, 0, 1, 1, 0, 1, 1, 1, 1, 1, 0, 1, 0, 0, 1, 0, 0, 1, 0, 1, 1, 1, 1, 1]) (fun o t w => match o with | .normal => F4_2 K5 Kr n (t 0) (t 3) (t 4) (t 6) (t 9) (t 11) w | .exit i => F4_2C K5 Kr (.exit i) t w | .ret => F4_2C K5 Kr .ret t w) t w) := by kernel_rfl
theorem F4_2_ok : ∀ Q t w, F4_2O Q t w → W Try.prog Try.f4.ntmps (getAt F4_code [0, 1, 1, 0, 1, 1, 1, 1, 1, 0, 1, 0, 0, 1, 0, 0, 1, 0, 1, 1, 1, 1, 1]) Q t w := by
  intro Q t w ⟨n, h⟩
  refine (W_loop (P := Try.prog) (b := getAt F4_code [0, 0, 1, 1, 0, 1, 1, 1, 1, 1, 0, 1, 0, 0, 1, 0, 0, 1, 0, 1, 1, 1, 1, 1]) (Q := F4_2C (fun y0 y3 y4 y6 w => ∀ g, rsh [(0, (.one .slc)), (3, (.one .ptr)), (4, (.one .slc)), (6, (.one (.int .i64)))] (upds g [(0, y0), (3, y3), (4, y4), (6, y6)]) fun t => Q (.exit 5) t w) (fun y2 w => ∀ g, rsh [(2, (.one .bool))] (upds g [(2, y2)]) fun t => Q .ret t w)) (G := fun n t w => F4_2 (fun y0 y3 y4 y6 w => ∀ g, rsh [(0, (.one .slc)), (3, (.one .ptr)), (4, (.one .slc)), (6, (.one (.int .i64)))] (upds g [(0, y0), (3, y3), (4, y4), (6, y6)]) fun t => Q (.exit 5) t w) (fun y2 w => ∀ g, rsh [(2, (.one .bool))] (upds g [(2, y2)]) fun t => Q .ret t w) n (t 0) (t 3) (t 4) (t 6) (t 9) (t 11) w) (fun _ _ h => h) (fun n t w h => ?_) n t w h).mono ?_
  · rw [F4_2_step] at h
    exact vc_sound mixed (orcCons (π := [1, 1, 0, 0, 1, 0, 0, 1, 1, 0, 1, 1, 1, 1, 1, 0, 1, 0, 0, 1, 0, 0, 1, 0, 1, 1, 1, 1, 1]) F4_1_ok (orcNil F4_code)) _ _ rfl (okC_at F4_code_ok [0, 0, 1, 1, 0, 1, 1, 1, 1, 1, 0, 1, 0, 0, 1, 0, 0, 1, 0, 1, 1, 1, 1, 1]) _ _ _ (rsh_out h)
  · intro o t w q
    cases o with
    | normal => exact q.elim
    | exit i =>
      unfold F4_2C at q
      simp only at q
      split at q
      · rename_i hi
        rw [nbeq] at hi
        subst hi
        exact out_ok [0, 3, 4, 6] q
      · exact q.elim
    | ret => exact out_ok [2] q
def F4_3C (Kn : Value → Value → Value → Value → World → Prop) : Post := fun o t w => match o with | .normal => Kn (t 0) (t 3) (t 4) (t 6) w | .exit _ => (False) | .ret => False
def F4_3 (Kn : Value → Value → Value → Value → World → Prop) (x0 : Value) (x3 : Value) (x4 : Value) (x6 : Value) (x100 : Value) (w : World) : Prop :=
  rdC x0 fun l1a l1n l1c => rdP x3 fun p2 => rdC x4 fun l3a l3n l3c => rdI .i64 x6 fun n4 => rdB x100 fun b5 => br b5 (ixS 3 l1a l1n n4 fun a6 => ldI .i64 (a6.add 1) w fun n7 => ixS 1 l3a l3n n7 fun a8 => stc a8 (.int .i64 (-1)) w fun w9 => Kn (.slice l1a l1n l1c) (.pointer p2) (.slice l3a l3n l3c) (.int .i64 n4) w9) (Kn (.slice l1a l1n l1c) (.pointer p2) (.slice l3a l3n l3c) (.int .i64 n4) w)
def F4_3O (Q : Post) (t : Tm) (w : World) : Prop := F4_3 (fun y0 y3 y4 y6 w => ∀ g, rsh [(0, (.one .slc)), (3, (.one .ptr)), (4, (.one .slc)), (6, (.one (.int .i64)))] (upds g [(0, y0), (3, y3), (4, y4), (6, y6)]) fun t => Q .normal t w) (t 0) (t 3) (t 4) (t 6) (t 100) w
theorem F4_3_step (Kn : Value → Value → Value → Value → World → Prop) (t : Tm) (w : World) : (F4_3 Kn (t 0) (t 3) (t 4) (t 6) (t 100) w) = rsh [(0, (.one .slc)), (3, (.one .ptr)), (4, (.one .slc)), (6, (.one (.int .i64))), (100, (.one .bool))] t (fun t => vc Try.prog (orcOf []) [1, 1, 0, 1, 1, 1, 0, 1, 0, 0, 1, 0, 0, 1, 0, 1, 1, 1, 1, 1] (getAt F4_code [1, 1, 0, 1, 1, 1, 0, 1, 0, 0, 1, 0, 0, 1, 0, 1, 1, 1, 1, 1]) (F4_3C Kn) t w) := by kernel_rfl
theorem F4_3_ok : ∀ Q t w, F4_3O Q t w → W Try.prog Try.f4.ntmps (getAt F4_code [1, 1, 0, 1, 1, 1, 0, 1, 0, 0, 1, 0, 0, 1, 0, 1, 1, 1, 1, 1]) Q t w := by
  intro Q t w h
  unfold F4_3O at h
  rw [F4_3_step] at h
  refine (vc_sound mixed (orcNil F4_code) _ _ rfl (okC_at F4_code_ok [1, 1, 0, 1, 1, 1, 0, 1, 0, 0, 1, 0, 0, 1, 0, 1, 1, 1, 1, 1]) _ _ _ (rsh_out h)).mono ?_
  intro o t w q
  cases o with
  | normal => exact out_ok [0, 3, 4, 6] q
  | exit i => exact q.elim
  | ret => exact q.elim
def F4_4C (K7 : Value → Value → World → Prop) : Post := fun o t w => match o with | .normal => False | .exit i => (match Nat.beq i 7 with | true => K7 (t 3) (t 13) w | false => False) | .ret => False
def F4_4B (R : Value → Value → Value → Value → Value → World → Prop) (K7 : Value → Value → World → Prop) (x3 : Value) (x4 : Value) (x13 : Value) (x159 : Value) (x160 : Value) (w : World) : Prop :=
  rdP x3 fun p1 => rdC x4 fun l2a l2n l2c => rdI .i64 x13 fun n3 => rdI .i64 x159 fun n4 => rdI .i64 x160 fun n5 => br (decide ((n5 : Int) < n4)) (ixS 1 l2a l2n n5 fun a6 => ldI .i64 a6 w fun n7 => br (decide ((n7 : Int) ≥ 0)) (R (.pointer p1) (.slice l2a l2n l2c) (.int .i64 (IntKind.wrap .i64 (n3 + 1))) (.int .i64 n4) (.int .i64 (IntKind.wrap .i64 (n5 + 1))) w) (R (.pointer p1) (.slice l2a l2n l2c) (.int .i64 n3) (.int .i64 n4) (.int .i64 (IntKind.wrap .i64 (n5 + 1))) w)) (K7 (.pointer p1) (.int .i64 n3) w)
def F4_4 (K7 : Value → Value → World → Prop) : Nat → Value → Value → Value → Value → Value → World → Prop
  | 0 => fun _ _ _ _ _ _ => False
  | n + 1 => F4_4B (F4_4 K7 n) K7
def F4_4O (Q : Post) (t : Tm) (w : World) : Prop := ∃ n, F4_4 (fun y3 y13 w => ∀ g, rsh [(3, (.one .ptr)), (13, (.one (.int .i64)))] (upds g [(3, y3), (13, y13)]) fun t => Q (.exit 7) t w) n (t 3) (t 4) (t 13) (t 159) (t 160) w
theorem F4_4_step (K7 : Value → Value → World → Prop) (n : Nat) (t : Tm) (w : World) : (F4_4 K7 (n + 1) (t 3) (t 4) (t 13) (t 159) (t 160) w) = rsh [(3, (.one .ptr)), (4, (.one .slc)), (13, (.one (.int .i64))), (159, (.one (.int .i64))), (160, (.one (.int .i64)))] t (fun t => vc Try.prog (orcOf []) [0, 0, 1, 0, 1, 1, 1, 1, 1, 1, 1] (getAt F4_code [0, 0, 1, 0, 1, 1, 1, 1, 1, 1, 1]) (fun o t w => match o with | .normal => F4_4 K7 n (t 3) (t 4) (t 13) (t 159) (t 160) w | .exit i => F4_4C K7 (.exit i) t w | .ret => F4_4C K7 .ret t w) t w) := by kernel_rfl
theorem F4_4_ok : ∀ Q t w, F4_4O Q t w → W Try.prog Try.f4.ntmps (getAt F4_code [0, 1, 0, 1, 1, 1, 1, 1, 1, 1]) Q t w := by
  intro Q t w ⟨n, h⟩
  refine (W_loop (P := Try.prog) (b := getAt F4_code [0, 0, 1, 0, 1, 1, 1, 1, 1, 1, 1]) (Q := F4_4C (fun y3 y13 w => ∀ g, rsh [(3, (.one .ptr)), (13, (.one (.int .i64)))] (upds g [(3, y3), (13, y13)]) fun t => Q (.exit 7) t w)) (G := fun n t w => F4_4 (fun y3 y13 w => ∀ g, rsh [(3, (.one .ptr)), (13, (.one (.int .i64)))] (upds g [(3, y3), (13, y13)]) fun t => Q (.exit 7) t w) n (t 3) (t 4) (t 13) (t 159) (t 160) w) (fun _ _ h => h) (fun n t w h => ?_) n t w h).mono ?_
  · rw [F4_4_step] at h
    exact vc_sound mixed (orcNil F4_code) _ _ rfl (okC_at F4_code_ok [0, 0, 1, 0, 1, 1, 1, 1, 1, 1, 1]) _ _ _ (rsh_out h)
  · intro o t w q
    cases o with
    | normal => exact q.elim
    | exit i =>
      unfold F4_4C at q
      simp only at q
      split at q
      · rename_i hi
        rw [nbeq] at hi
        subst hi
        exact out_ok [3, 13] q
      · exact q.elim
    | ret => exact q.elim
def F4_5C (K2 : Value → Value → World → Prop) (Kr : Value → World → Prop) : Post := fun o t w => match o with | .normal => False | .exit i => (match Nat.beq i 2 with | true => K2 (t 3) (t 4) w | false => False) | .ret => Kr (t 2) w
def F4_5B (R : Value → Value → Value → Value → World → Prop) (K2 : Value → Value → World → Prop) (Kr : Value → World → Prop) (x0 : Value) (x3 : Value) (x4 : Value) (x6 : Value) (w : World) : Prop :=
  rdC x0 fun l1a l1n l1c => rdP x3 fun p2 => rdC x4 fun l3a l3n l3c => rdI .i64 x6 fun n4 => br (decide ((n4 : Int) < (l1n : Int))) (ixS 3 l1a l1n n4 fun a5 => ldI .i64 (a5.add 0) w fun n6 => br (n6 == 1) (drw w fun w7 => ixS 3 l1a l1n n4 fun a8 => ldI .i64 (a8.add 1) w7 fun n9 => ixS 3 l1a l1n n4 fun a10 => ldI .i64 (a10.add 2) w7 fun n11 => Calls Try.prog 9 #[(.pointer p2), (.int .i64 n9), (.int .i64 n11)] w7 fun e13 w12 => ∃ n14, e13 = .returned (.int .i64 n14) ∧ (br (n14 == 0) (ixS 3 l1a l1n n4 fun a15 => ldI .i64 (a15.add 1) w12 fun n16 => Calls Try.prog 14 #[(.int .i64 n16)] w12 fun e18 w17 => ∃ b19, e18 = .returned (.bool b19) ∧ (br (!b19) (Kr (.bool false) w17) (drw w17 fun w20 => ixS 3 l1a l1n n4 fun a21 => ldI .i64 (a21.add 1) w20 fun n22 => ixS 3 l1a l1n n4 fun a23 => ldI .i64 (a23.add 2) w20 fun n24 => ixS 1 l3a l3n n22 fun a25 => stc a25 (.int .i64 n24) w20 fun w26 => R (.slice l1a l1n l1c) (.pointer p2) (.slice l3a l3n l3c) (.int .i64 (IntKind.wrap .i64 (n4 + 1))) w26))) (R (.slice l1a l1n l1c) (.pointer p2) (.slice l3a l3n l3c) (.int .i64 (IntKind.wrap .i64 (n4 + 1))) w12))) (br (n6 == 2) (ixS 3 l1a l1n n4 fun a27 => ldI .i64 (a27.add 1) w fun n28 => Calls Try.prog 15 #[(.pointer p2), (.int .i64 n28)] w fun e30 w29 => ∃ b31, ∃ n32, e30 = .returned (.tuple #[(.bool b31), (.int .i64 n32)]) ∧ (br (n32 == 0) (ixS 3 l1a l1n n4 fun a33 => ldI .i64 (a33.add 1) w29 fun n34 => Calls Try.prog 14 #[(.int .i64 n34)] w29 fun e36 w35 => ∃ b37, e36 = .returned (.bool b37) ∧ (F4_3 (fun y0_37 y3_37 y4_37 y6_37 w39 => ∀ _g40 : Tm, rdC y0_37 fun l41a l41n l41c => rdP y3_37 fun p42 => rdC y4_37 fun l43a l43n l43c => rdI .i64 y6_37 fun n44 => R (.slice l41a l41n l41c) (.pointer p42) (.slice l43a l43n l43c) (.int .i64 (IntKind.wrap .i64 (n44 + 1))) w39) (.slice l1a l1n l1c) (.pointer p2) (.slice l3a l3n l3c) (.int .i64 n4) (.bool b37) w35)) (F4_3 (fun y0_44 y3_44 y4_44 y6_44 w46 => ∀ _g47 : Tm, rdC y0_44 fun l48a l48n l48c => rdP y3_44 fun p49 => rdC y4_44 fun l50a l50n l50c => rdI .i64 y6_44 fun n51 => R (.slice l48a l48n l48c) (.pointer p49) (.slice l50a l50n l50c) (.int .i64 (IntKind.wrap .i64 (n51 + 1))) w46) (.slice l1a l1n l1c) (.pointer p2) (.slice l3a l3n l3c) (.int .i64 n4) (.bool false) w29))) (br (n6 == 3) (ixS 3 l1a l1n n4 fun a52 => ldI .i64 (a52.add 2) w fun n53 => Calls Try.prog 10 #[(.pointer p2), (.int .i64 n53)] w fun e55 w54 => ∃ l56a l56n l56c, ∃ n57, e55 = .returned (.tuple #[(.slice l56a l56n l56c), (.int .i64 n57)]) ∧ (∃ k69 : Nat, F4_2 (fun y0_57 y3_57 y4_57 y6_57 w59 => ∀ _g60 : Tm, rdC y0_57 fun l61a l61n l61c => rdP y3_57 fun p62 => rdC y4_57 fun l63a l63n l63c => rdI .i64 y6_57 fun n64 => R (.slice l61a l61n l61c) (.pointer p62) (.slice l63a l63n l63c) (.int .i64 (IntKind.wrap .i64 (n64 + 1))) w59) (fun y2_64 w66 => ∀ _g67 : Tm, rdB y2_64 fun b68 => Kr (.bool b68) w66) k69 (.slice l1a l1n l1c) (.pointer p2) (.slice l3a l3n l3c) (.int .i64 n4) (.slice l56a l56n l56c) (.int .i64 0) w54)) (R (.slice l1a l1n l1c) (.pointer p2) (.slice l3a l3n l3c) (.int .i64 (IntKind.wrap .i64 (n4 + 1))) w)))) (K2 (.pointer p2) (.slice l3a l3n l3c) w)
def F4_5 (K2 : Value → Value → World → Prop) (Kr : Value → World → Prop) : Nat → Value → Value → Value → Value → World → Prop
  | 0 => fun _ _ _ _ _ => False
  | n + 1 => F4_5B (F4_5 K2 Kr n) K2 Kr
def F4_5O (Q : Post) (t : Tm) (w : World) : Prop := ∃ n, F4_5 (fun y3 y4 w => ∀ g, rsh [(3, (.one .ptr)), (4, (.one .slc))] (upds g [(3, y3), (4, y4)]) fun t => Q (.exit 2) t w) (fun y2 w => ∀ g, rsh [(2, (.one .bool))] (upds g [(2, y2)]) fun t => Q .ret t w) n (t 0) (t 3) (t 4) (t 6) w
theorem F4_5_step (K2 : Value → Value → World → Prop) (Kr : Value → World → Prop) (n : Nat) (t : Tm) (w : World) : (F4_5 K2 Kr (n + 1) (t 0) (t 3) (t 4) (t 6) w) = rsh [(0, (.one .slc)), (3, (.one .ptr)), (4, (.one .slc)), (6, (.one (.int .i64)))] t (fun t => vc Try.prog (orcOf [([1, 1, 0, 0, 1, 0, 0, 1, 1, 0, 1, 1, 1, 1, 1, 0, 1, 0, 0, 1, 0, 0, 1, 0, 1, 1, 1, 1, 1], F4_1O), ([0, 1, 1, 0, 1, 1, 1, 1, 1, 0, 1, 0, 0, 1, 0, 0, 1, 0, 1, 1, 1, 1, 1], F4_2O), ([1, 1, 0, 1, 1, 1, 0, 1, 0, 0, 1, 0, 0, 1, 0, 1, 1, 1, 1, 1], F4_3O)]) [0, 0, 1, 0, 1, 1, 1, 1, 1] (getAt F4_code [0, 0, 1, 0, 1, 1, 1, 1, 1]) (fun o t w => match o with | .normal => F4_5 K2 Kr n (t 0) (t 3) (t 4) (t 6) w | .exit i => F4_5C K2 Kr (.exit i) t w | .ret => F4_5C K2 Kr .ret t w) t w) := by kernel_rfl
theorem F4_5_ok : ∀ Q t w, F4_5O Q t w → W Try.prog Try.f4.ntmps (getAt F4_code [0, 1, 0, 1, 1, 1, 1, 1]) Q t w := by
  intro Q t w ⟨n, h⟩
  refine (W_loop (P := Try.prog) (b := getAt F4_code [0, 0, 1, 0, 1, 1, 1, 1, 1]) (Q := F4_5C (fun y3 y4 w => ∀ g, rsh [(3, (.one .ptr)), (4, (.one .slc))] (upds g [(3, y3), (4, y4)]) fun t => Q (.exit 2) t w) (fun y2 w => ∀ g, rsh [(2, (.one .bool))] (upds g [(2, y2)]) fun t => Q .ret t w)) (G := fun n t w => F4_5 (fun y3 y4 w => ∀ g, rsh [(3, (.one .ptr)), (4, (.one .slc))] (upds g [(3, y3), (4, y4)]) fun t => Q (.exit 2) t w) (fun y2 w => ∀ g, rsh [(2, (.one .bool))] (upds g [(2, y2)]) fun t => Q .ret t w) n (t 0) (t 3) (t 4) (t 6) w) (fun _ _ h => h) (fun n t w h => ?_) n t w h).mono ?_
  · rw [F4_5_step] at h
    exact vc_sound mixed (orcCons (π := [1, 1, 0, 0, 1, 0, 0, 1, 1, 0, 1, 1, 1, 1, 1, 0, 1, 0, 0, 1, 0, 0, 1, 0, 1, 1, 1, 1, 1]) F4_1_ok (orcCons (π := [0, 1, 1, 0, 1, 1, 1, 1, 1, 0, 1, 0, 0, 1, 0, 0, 1, 0, 1, 1, 1, 1, 1]) F4_2_ok (orcCons (π := [1, 1, 0, 1, 1, 1, 0, 1, 0, 0, 1, 0, 0, 1, 0, 1, 1, 1, 1, 1]) F4_3_ok (orcNil F4_code)))) _ _ rfl (okC_at F4_code_ok [0, 0, 1, 0, 1, 1, 1, 1, 1]) _ _ _ (rsh_out h)
  · intro o t w q
    cases o with
    | normal => exact q.elim
    | exit i =>
      unfold F4_5C at q
      simp only at q
      split at q
      · rename_i hi
        rw [nbeq] at hi
        subst hi
        exact out_ok [3, 4] q
      · exact q.elim
    | ret => exact out_ok [2] q
def F4_6C (K0 : Value → Value → Value → World → Prop) : Post := fun o t w => match o with | .normal => False | .exit i => (match Nat.beq i 0 with | true => K0 (t 0) (t 3) (t 4) w | false => False) | .ret => False
def F4_6B (R : Value → Value → Value → Value → Value → World → Prop) (K0 : Value → Value → Value → World → Prop) (x0 : Value) (x3 : Value) (x4 : Value) (x26 : Value) (x27 : Value) (w : World) : Prop :=
  rdC x0 fun l1a l1n l1c => rdP x3 fun p2 => rdC x4 fun l3a l3n l3c => rdI .i64 x26 fun n4 => rdI .i64 x27 fun n5 => br (decide ((n5 : Int) < n4)) (ixS 1 l3a l3n n5 fun a6 => stc a6 (.int .i64 (-1)) w fun w7 => R (.slice l1a l1n l1c) (.pointer p2) (.slice l3a l3n l3c) (.int .i64 n4) (.int .i64 (IntKind.wrap .i64 (n5 + 1))) w7) (K0 (.slice l1a l1n l1c) (.pointer p2) (.slice l3a l3n l3c) w)
def F4_6 (K0 : Value → Value → Value → World → Prop) : Nat → Value → Value → Value → Value → Value → World → Prop
  | 0 => fun _ _ _ _ _ _ => False
  | n + 1 => F4_6B (F4_6 K0 n) K0
def F4_6O (Q : Post) (t : Tm) (w : World) : Prop := ∃ n, F4_6 (fun y0 y3 y4 w => ∀ g, rsh [(0, (.one .slc)), (3, (.one .ptr)), (4, (.one .slc))] (upds g [(0, y0), (3, y3), (4, y4)]) fun t => Q (.exit 0) t w) n (t 0) (t 3) (t 4) (t 26) (t 27) w
theorem F4_6_step (K0 : Value → Value → Value → World → Prop) (n : Nat) (t : Tm) (w : World) : (F4_6 K0 (n + 1) (t 0) (t 3) (t 4) (t 26) (t 27) w) = rsh [(0, (.one .slc)), (3, (.one .ptr)), (4, (.one .slc)), (26, (.one (.int .i64))), (27, (.one (.int .i64)))] t (fun t => vc Try.prog (orcOf []) [0, 0, 1, 0, 1, 1, 1, 1] (getAt F4_code [0, 0, 1, 0, 1, 1, 1, 1]) (fun o t w => match o with | .normal => F4_6 K0 n (t 0) (t 3) (t 4) (t 26) (t 27) w | .exit i => F4_6C K0 (.exit i) t w | .ret => F4_6C K0 .ret t w) t w) := by kernel_rfl
theorem F4_6_ok : ∀ Q t w, F4_6O Q t w → W Try.prog Try.f4.ntmps (getAt F4_code [0, 1, 0, 1, 1, 1, 1]) Q t w := by
  intro Q t w ⟨n, h⟩
  refine (W_loop (P := Try.prog) (b := getAt F4_code [0, 0, 1, 0, 1, 1, 1, 1]) (Q := F4_6C (fun y0 y3 y4 w => ∀ g, rsh [(0, (.one .slc)), (3, (.one .ptr)), (4, (.one .slc))] (upds g [(0, y0), (3, y3), (4, y4)]) fun t => Q (.exit 0) t w)) (G := fun n t w => F4_6 (fun y0 y3 y4 w => ∀ g, rsh [(0, (.one .slc)), (3, (.one .ptr)), (4, (.one .slc))] (upds g [(0, y0), (3, y3), (4, y4)]) fun t => Q (.exit 0) t w) n (t 0) (t 3) (t 4) (t 26) (t 27) w) (fun _ _ h => h) (fun n t w h => ?_) n t w h).mono ?_
  · rw [F4_6_step] at h
    exact vc_sound mixed (orcNil F4_code) _ _ rfl (okC_at F4_code_ok [0, 0, 1, 0, 1, 1, 1, 1]) _ _ _ (rsh_out h)
  · intro o t w q
    cases o with
    | normal => exact q.elim
    | exit i =>
      unfold F4_6C at q
      simp only at q
      split at q
      · rename_i hi
        rw [nbeq] at hi
        subst hi
        exact out_ok [0, 3, 4] q
      · exact q.elim
    | ret => exact q.elim
def F4_7C (Kr : Value → World → Prop) : Post := fun o t w => match o with | .normal => False | .exit _ => (False) | .ret => Kr (t 2) w
def F4_7 (Kr : Value → World → Prop) (x0 : Value) (x3 : Value) (w : World) : Prop :=
  rdC x0 fun l1a l1n l1c => rdP x3 fun p2 => ∃ l3a l3n l3c, ∃ w4, Sem.run Try.prog (Instr.makeSlice 23 (.int .i64 4096) (.int .i64 4096)) w = .ok (.slice l3a l3n l3c) w4 ∧ (∃ k34 : Nat, F4_6 (fun y0_4 y3_4 y4_4 w6 => ∀ _g7 : Tm, rdC y0_4 fun l8a l8n l8c => rdP y3_4 fun p9 => rdC y4_4 fun l10a l10n l10c => ∃ k33 : Nat, F4_5 (fun y3_10 y4_10 w12 => ∀ _g13 : Tm, rdP y3_10 fun p14 => rdC y4_10 fun l15a l15n l15c => ∃ k28 : Nat, F4_4 (fun y3_15 y13_15 w17 => ∀ _g18 : Tm, rdP y3_15 fun p19 => rdI .i64 y13_15 fun n20 => Calls Try.prog 10 #[(.pointer p19), (.int .i64 1099511627776)] w17 fun e22 w21 => ∃ l23a l23n l23c, ∃ n24, e22 = .returned (.tuple #[(.slice l23a l23n l23c), (.int .i64 n24)]) ∧ (br (n24 == 0) (br ((l23n : Int) == n20) (Calls Try.prog 16 #[(.pointer p19)] w21 fun e26 w25 => ∃ n27, e26 = .returned (.int .i64 n27) ∧ (Kr (.bool (n27 == 0)) w25)) (Kr (.bool false) w21)) (Kr (.bool false) w21))) k28 (.pointer p14) (.slice l15a l15n l15c) (.int .i64 0) (.int .i64 (l15n : Int)) (.int .i64 0) w12) (fun y2_28 w30 => ∀ _g31 : Tm, rdB y2_28 fun b32 => Kr (.bool b32) w30) k33 (.slice l8a l8n l8c) (.pointer p9) (.slice l10a l10n l10c) (.int .i64 0) w6) k34 (.slice l1a l1n l1c) (.pointer p2) (.slice l3a l3n l3c) (.int .i64 (l3n : Int)) (.int .i64 0) w4)
def F4_7O (Q : Post) (t : Tm) (w : World) : Prop := F4_7 (fun y2 w => ∀ g, rsh [(2, (.one .bool))] (upds g [(2, y2)]) fun t => Q .ret t w) (t 0) (t 3) w
theorem F4_7_step (Kr : Value → World → Prop) (t : Tm) (w : World) : (F4_7 Kr (t 0) (t 3) w) = rsh [(0, (.one .slc)), (3, (.one .ptr))] t (fun t => vc Try.prog (orcOf [([1, 1, 0, 0, 1, 0, 0, 1, 1, 0, 1, 1, 1, 1, 1, 0, 1, 0, 0, 1, 0, 0, 1, 0, 1, 1, 1, 1, 1], F4_1O), ([0, 1, 1, 0, 1, 1, 1, 1, 1, 0, 1, 0, 0, 1, 0, 0, 1, 0, 1, 1, 1, 1, 1], F4_2O), ([1, 1, 0, 1, 1, 1, 0, 1, 0, 0, 1, 0, 0, 1, 0, 1, 1, 1, 1, 1], F4_3O), ([0, 1, 0, 1, 1, 1, 1, 1, 1, 1], F4_4O), ([0, 1, 0, 1, 1, 1, 1, 1], F4_5O), ([0, 1, 0, 1, 1, 1, 1], F4_6O)]) [1, 1, 1] (getAt F4_code [1, 1, 1]) (F4_7C Kr) t w) := by kernel_rfl
theorem F4_7_ok : ∀ Q t w, F4_7O Q t w → W Try.prog Try.f4.ntmps (getAt F4_code [1, 1, 1]) Q t w := by
  intro Q t w h
  unfold F4_7O at h
  rw [F4_7_step] at h
  refine (vc_sound mixed (orcCons (π := [1, 1, 0, 0, 1, 0, 0, 1, 1, 0, 1, 1, 1, 1, 1, 0, 1, 0, 0, 1, 0, 0, 1, 0, 1, 1, 1, 1, 1]) F4_1_ok (orcCons (π := [0, 1, 1, 0, 1, 1, 1, 1, 1, 0, 1, 0, 0, 1, 0, 0, 1, 0, 1, 1, 1, 1, 1]) F4_2_ok (orcCons (π := [1, 1, 0, 1, 1, 1, 0, 1, 0, 0, 1, 0, 0, 1, 0, 1, 1, 1, 1, 1]) F4_3_ok (orcCons (π := [0, 1, 0, 1, 1, 1, 1, 1, 1, 1]) F4_4_ok (orcCons (π := [0, 1, 0, 1, 1, 1, 1, 1]) F4_5_ok (orcCons (π := [0, 1, 0, 1, 1, 1, 1]) F4_6_ok (orcNil F4_code))))))) _ _ rfl (okC_at F4_code_ok [1, 1, 1]) _ _ _ (rsh_out h)).mono ?_
  intro o t w q
  cases o with
  | normal => exact q.elim
  | exit i => exact q.elim
  | ret => exact out_ok [2] q
def F4 (x0 : Value) (w : World) (K : Value → World → Prop) : Prop :=
  rdC x0 fun l1a l1n l1c => Calls Try.prog 7 #[] w fun e3 w2 => ∃ p4, e3 = .returned (.pointer p4) ∧ (br (Option.isNone p4) (K (.bool false) w2) (Calls Try.prog 8 #[] w2 fun e6 w5 => ∃ b7, e6 = .returned (.bool b7) ∧ (br (!b7) (K (.bool false) w5) (F4_7 (fun y2_7 w9 => ∀ _g10 : Tm, rdB y2_7 fun b11 => K (.bool b11) w9) (.slice l1a l1n l1c) (.pointer p4) w5))))
theorem F4_step (x0 : Value) (w : World) (K : Value → World → Prop) : (F4 x0 w K) = rsh [(0, (.one .slc))] (args0 #[x0]) (fun t => vc Try.prog (orcOf [([1, 1, 0, 0, 1, 0, 0, 1, 1, 0, 1, 1, 1, 1, 1, 0, 1, 0, 0, 1, 0, 0, 1, 0, 1, 1, 1, 1, 1], F4_1O), ([0, 1, 1, 0, 1, 1, 1, 1, 1, 0, 1, 0, 0, 1, 0, 0, 1, 0, 1, 1, 1, 1, 1], F4_2O), ([1, 1, 0, 1, 1, 1, 0, 1, 0, 0, 1, 0, 0, 1, 0, 1, 1, 1, 1, 1], F4_3O), ([0, 1, 0, 1, 1, 1, 1, 1, 1, 1], F4_4O), ([0, 1, 0, 1, 1, 1, 1, 1], F4_5O), ([0, 1, 0, 1, 1, 1, 1], F4_6O), ([1, 1, 1], F4_7O)]) [] F4_code (retQ Try.prog Try.f4 K) t w) := by kernel_rfl
theorem F4_ok {x0 : Value} {w : World} {K : Value → World → Prop} (h : F4 x0 w K) : Calls Try.prog 4 #[x0] w fun e w' => ∃ v, e = .returned v ∧ K v w' := by
  rw [F4_step] at h
  exact calls_of (c := F4_code) mixed Try.func4 rfl (nlt rfl) (vc_sound mixed (orcCons (π := [1, 1, 0, 0, 1, 0, 0, 1, 1, 0, 1, 1, 1, 1, 1, 0, 1, 0, 0, 1, 0, 0, 1, 0, 1, 1, 1, 1, 1]) F4_1_ok (orcCons (π := [0, 1, 1, 0, 1, 1, 1, 1, 1, 0, 1, 0, 0, 1, 0, 0, 1, 0, 1, 1, 1, 1, 1]) F4_2_ok (orcCons (π := [1, 1, 0, 1, 1, 1, 0, 1, 0, 0, 1, 0, 0, 1, 0, 1, 1, 1, 1, 1]) F4_3_ok (orcCons (π := [0, 1, 0, 1, 1, 1, 1, 1, 1, 1]) F4_4_ok (orcCons (π := [0, 1, 0, 1, 1, 1, 1, 1]) F4_5_ok (orcCons (π := [0, 1, 0, 1, 1, 1, 1]) F4_6_ok (orcCons (π := [1, 1, 1]) F4_7_ok (orcNil F4_code)))))))) F4_code [] rfl F4_code_ok _ _ _ (rsh_out h))

/-! ropewalk/ropewalklaw08.TimersRuns -/
noncomputable def F5_code : Code := Try.f5.body.getD .skip
theorem F5_code_ok : okC Try.prog Try.f5.ntmps F5_code = true := by kernel_rfl
def F5_1C (K0 : World → Prop) (Kr : Value → World → Prop) : Post := fun o t w => match o with | .normal => False | .exit i => (match Nat.beq i 0 with | true => K0  w | false => False) | .ret => Kr (t 2) w
def F5_1B (R : Value → Value → Value → Value → World → Prop) (K0 : World → Prop) (Kr : Value → World → Prop) (x0 : Value) (x3 : Value) (x4 : Value) (x5 : Value) (w : World) : Prop :=
  rdC x0 fun l1a l1n l1c => rdP x3 fun p2 => rdP x4 fun p3 => rdI .i64 x5 fun n4 => br (decide ((n4 : Int) < (l1n : Int))) (ixS 3 l1a l1n n4 fun a5 => ldR38 a5 w fun s6 => Calls Try.prog 17 #[(.pointer p2), (.pointer p3), s6.v] w fun e8 w7 => ∃ b9, e8 = .returned (.bool b9) ∧ (br (!b9) (Kr (.bool false) w7) (R (.slice l1a l1n l1c) (.pointer p2) (.pointer p3) (.int .i64 (IntKind.wrap .i64 (n4 + 1))) w7))) (K0 w)
def F5_1 (K0 : World → Prop) (Kr : Value → World → Prop) : Nat → Value → Value → Value → Value → World → Prop
  | 0 => fun _ _ _ _ _ => False
  | n + 1 => F5_1B (F5_1 K0 Kr n) K0 Kr
def F5_1O (Q : Post) (t : Tm) (w : World) : Prop := ∃ n, F5_1 (fun w => ∀ g, rsh [] (upds g []) fun t => Q (.exit 0) t w) (fun y2 w => ∀ g, rsh [(2, (.one .bool))] (upds g [(2, y2)]) fun t => Q .ret t w) n (t 0) (t 3) (t 4) (t 5) w
theorem F5_1_step (K0 : World → Prop) (Kr : Value → World → Prop) (n : Nat) (t : Tm) (w : World) : (F5_1 K0 Kr (n + 1) (t 0) (t 3) (t 4) (t 5) w) = rsh [(0, (.one .slc)), (3, (.one .ptr)), (4, (.one .ptr)), (5, (.one (.int .i64)))] t (fun t => vc Try.prog (orcOf []) [0, 0, 1, 0, 1, 1, 1] (getAt F5_code [0, 0, 1, 0, 1, 1, 1]) (fun o t w => match o with | .normal => F5_1 K0 Kr n (t 0) (t 3) (t 4) (t 5) w | .exit i => F5_1C K0 Kr (.exit i) t w | .ret => F5_1C K0 Kr .ret t w) t w) := by kernel_rfl
theorem F5_1_ok : ∀ Q t w, F5_1O Q t w → W Try.prog Try.f5.ntmps (getAt F5_code [0, 1, 0, 1, 1, 1]) Q t w := by
  intro Q t w ⟨n, h⟩
  refine (W_loop (P := Try.prog) (b := getAt F5_code [0, 0, 1, 0, 1, 1, 1]) (Q := F5_1C (fun w => ∀ g, rsh [] (upds g []) fun t => Q (.exit 0) t w) (fun y2 w => ∀ g, rsh [(2, (.one .bool))] (upds g [(2, y2)]) fun t => Q .ret t w)) (G := fun n t w => F5_1 (fun w => ∀ g, rsh [] (upds g []) fun t => Q (.exit 0) t w) (fun y2 w => ∀ g, rsh [(2, (.one .bool))] (upds g [(2, y2)]) fun t => Q .ret t w) n (t 0) (t 3) (t 4) (t 5) w) (fun _ _ h => h) (fun n t w h => ?_) n t w h).mono ?_
  · rw [F5_1_step] at h
    exact vc_sound mixed (orcNil F5_code) _ _ rfl (okC_at F5_code_ok [0, 0, 1, 0, 1, 1, 1]) _ _ _ (rsh_out h)
  · intro o t w q
    cases o with
    | normal => exact q.elim
    | exit i =>
      unfold F5_1C at q
      simp only at q
      split at q
      · rename_i hi
        rw [nbeq] at hi
        subst hi
        exact out_ok [] q
      · exact q.elim
    | ret => exact out_ok [2] q
def F5_2C (Kr : Value → World → Prop) : Post := fun o t w => match o with | .normal => False | .exit _ => (False) | .ret => Kr (t 2) w
def F5_2 (Kr : Value → World → Prop) (x0 : Value) (x3 : Value) (x4 : Value) (w : World) : Prop :=
  rdC x0 fun l1a l1n l1c => rdP x3 fun p2 => rdP x4 fun p3 => ∃ k11 : Nat, F5_1 (fun w5 => ∀ _g6 : Tm, Kr (.bool true) w5) (fun y2_6 w8 => ∀ _g9 : Tm, rdB y2_6 fun b10 => Kr (.bool b10) w8) k11 (.slice l1a l1n l1c) (.pointer p2) (.pointer p3) (.int .i64 0) w
def F5_2O (Q : Post) (t : Tm) (w : World) : Prop := F5_2 (fun y2 w => ∀ g, rsh [(2, (.one .bool))] (upds g [(2, y2)]) fun t => Q .ret t w) (t 0) (t 3) (t 4) w
theorem F5_2_step (Kr : Value → World → Prop) (t : Tm) (w : World) : (F5_2 Kr (t 0) (t 3) (t 4) w) = rsh [(0, (.one .slc)), (3, (.one .ptr)), (4, (.one .ptr))] t (fun t => vc Try.prog (orcOf [([0, 1, 0, 1, 1, 1], F5_1O)]) [1, 1, 1] (getAt F5_code [1, 1, 1]) (F5_2C Kr) t w) := by kernel_rfl
theorem F5_2_ok : ∀ Q t w, F5_2O Q t w → W Try.prog Try.f5.ntmps (getAt F5_code [1, 1, 1]) Q t w := by
  intro Q t w h
  unfold F5_2O at h
  rw [F5_2_step] at h
  refine (vc_sound mixed (orcCons (π := [0, 1, 0, 1, 1, 1]) F5_1_ok (orcNil F5_code)) _ _ rfl (okC_at F5_code_ok [1, 1, 1]) _ _ _ (rsh_out h)).mono ?_
  intro o t w q
  cases o with
  | normal => exact q.elim
  | exit i => exact q.elim
  | ret => exact out_ok [2] q
def F5 (x0 : Value) (w : World) (K : Value → World → Prop) : Prop :=
  rdC x0 fun l1a l1n l1c => Calls Try.prog 7 #[] w fun e3 w2 => ∃ p4, e3 = .returned (.pointer p4) ∧ (alc (.cells #[(.slice none 0 0), (.int .i64 0)] 46) w2 fun b5 w6 => br (Option.isNone p4) (K (.bool false) w6) (Calls Try.prog 8 #[] w6 fun e8 w7 => ∃ b9, e8 = .returned (.bool b9) ∧ (br (!b9) (K (.bool false) w7) (F5_2 (fun y2_9 w11 => ∀ _g12 : Tm, rdB y2_9 fun b13 => K (.bool b13) w11) (.slice l1a l1n l1c) (.pointer p4) (.pointer (some (Addr.mk b5 0 none))) w7))))
theorem F5_step (x0 : Value) (w : World) (K : Value → World → Prop) : (F5 x0 w K) = rsh [(0, (.one .slc))] (args0 #[x0]) (fun t => vc Try.prog (orcOf [([0, 1, 0, 1, 1, 1], F5_1O), ([1, 1, 1], F5_2O)]) [] F5_code (retQ Try.prog Try.f5 K) t w) := by kernel_rfl
theorem F5_ok {x0 : Value} {w : World} {K : Value → World → Prop} (h : F5 x0 w K) : Calls Try.prog 5 #[x0] w fun e w' => ∃ v, e = .returned v ∧ K v w' := by
  rw [F5_step] at h
  exact calls_of (c := F5_code) mixed Try.func5 rfl (nlt rfl) (vc_sound mixed (orcCons (π := [0, 1, 0, 1, 1, 1]) F5_1_ok (orcCons (π := [1, 1, 1]) F5_2_ok (orcNil F5_code))) F5_code [] rfl F5_code_ok _ _ _ (rsh_out h))

/-! ropewalk/ropewalklaw08.TimersNobody -/
noncomputable def F6_code : Code := Try.f6.body.getD .skip
theorem F6_code_ok : okC Try.prog Try.f6.ntmps F6_code = true := by kernel_rfl
def F6_1C (K0 : World → Prop) (Kr : Value → World → Prop) : Post := fun o t w => match o with | .normal => False | .exit i => (match Nat.beq i 0 with | true => K0  w | false => False) | .ret => Kr (t 2) w
def F6_1B (R : Value → Value → Value → Value → World → Prop) (K0 : World → Prop) (Kr : Value → World → Prop) (x1 : Value) (x17 : Value) (x18 : Value) (x19 : Value) (w : World) : Prop :=
  rdA x1 fun a1 => rdC x17 fun l2a l2n l2c => rdI .i64 x18 fun n3 => rdI .i64 x19 fun n4 => br (decide ((n4 : Int) < n3)) (ixS 1 l2a l2n n4 fun a5 => ldP a5 w fun p6 => ldI .i64 (a1.add 1) w fun n7 => Calls Try.prog 15 #[(.pointer p6), (.int .i64 n7)] w fun e9 w8 => ∃ b10, ∃ n11, e9 = .returned (.tuple #[(.bool b10), (.int .i64 n11)]) ∧ (ldI .i64 (a1.add 2) w8 fun n12 => Calls Try.prog 10 #[(.pointer p6), (.int .i64 n12)] w8 fun e14 w13 => ∃ l15a l15n l15c, ∃ n16, e14 = .returned (.tuple #[(.slice l15a l15n l15c), (.int .i64 n16)]) ∧ (ldI .i64 (a1.add 1) w13 fun n17 => Calls Try.prog 18 #[(.pointer p6), (.int .i64 n17)] w13 fun e19 w18 => ∃ n20, ∃ b21, e19 = .returned (.tuple #[(.int .i64 n20), (.bool b21)]) ∧ (Calls Try.prog 19 #[(.pointer p6)] w18 fun e23 w22 => ∃ n24 n25, ∃ b26, e23 = .returned (.tuple #[(.agg #[(.int .i64 n24), (.int .i64 n25)]), (.bool b26)]) ∧ (alc (.cells #[(.int .i64 0), (.int .i64 0)] 30) w22 fun b27 w28 => stc ((Addr.mk b27 0 none).add 0) (.int .i64 n24) w28 fun w29 => stc ((Addr.mk b27 0 none).add 1) (.int .i64 n25) w29 fun w30 => ldI .i64 (a1.add 1) w30 fun n31 => ldI .i64 (a1.add 2) w30 fun n32 => Calls Try.prog 9 #[(.pointer p6), (.int .i64 n31), (.int .i64 n32)] w30 fun e34 w33 => ∃ n35, e34 = .returned (.int .i64 n35) ∧ (br (n35 != 4) (Kr (.bool false) w33) (br (n11 != 4) (Kr (.bool false) w33) (br (n16 != 4) (Kr (.bool false) w33) (br b21 (Kr (.bool false) w33) (br b26 (Kr (.bool false) w33) (Calls Try.prog 16 #[(.pointer p6)] w33 fun e37 w36 => ∃ n38, e37 = .returned (.int .i64 n38) ∧ (Calls Try.prog 13 #[(.pointer p6)] w36 fun e40 w39 => ∃ l41a l41n l41c, e40 = .returned (.slice l41a l41n l41c) ∧ (br ((IntKind.wrap .i64 (n38 + (l41n : Int))) != 0) (Kr (.bool false) w39) (R (.pointer (some a1)) (.slice l2a l2n l2c) (.int .i64 n3) (.int .i64 (IntKind.wrap .i64 (n4 + 1))) w39)))))))))))))) (K0 w)
def F6_1 (K0 : World → Prop) (Kr : Value → World → Prop) : Nat → Value → Value → Value → Value → World → Prop
  | 0 => fun _ _ _ _ _ => False
  | n + 1 => F6_1B (F6_1 K0 Kr n) K0 Kr
def F6_1O (Q : Post) (t : Tm) (w : World) : Prop := ∃ n, F6_1 (fun w => ∀ g, rsh [] (upds g []) fun t => Q (.exit 0) t w) (fun y2 w => ∀ g, rsh [(2, (.one .bool))] (upds g [(2, y2)]) fun t => Q .ret t w) n (t 1) (t 17) (t 18) (t 19) w
theorem F6_1_step (K0 : World → Prop) (Kr : Value → World → Prop) (n : Nat) (t : Tm) (w : World) : (F6_1 K0 Kr (n + 1) (t 1) (t 17) (t 18) (t 19) w) = rsh [(1, (.one .adr)), (17, (.one .slc)), (18, (.one (.int .i64))), (19, (.one (.int .i64)))] t (fun t => vc Try.prog (orcOf []) [0, 0, 1, 0, 1, 1] (getAt F6_code [0, 0, 1, 0, 1, 1]) (fun o t w => match o with | .normal => F6_1 K0 Kr n (t 1) (t 17) (t 18) (t 19) w | .exit i => F6_1C K0 Kr (.exit i) t w | .ret => F6_1C K0 Kr .ret t w) t w) := by kernel_rfl
theorem F6_1_ok : ∀ Q t w, F6_1O Q t w → W Try.prog Try.f6.ntmps (getAt F6_code [0, 1, 0, 1, 1]) Q t w := by
  intro Q t w ⟨n, h⟩
  refine (W_loop (P := Try.prog) (b := getAt F6_code [0, 0, 1, 0, 1, 1]) (Q := F6_1C (fun w => ∀ g, rsh [] (upds g []) fun t => Q (.exit 0) t w) (fun y2 w => ∀ g, rsh [(2, (.one .bool))] (upds g [(2, y2)]) fun t => Q .ret t w)) (G := fun n t w => F6_1 (fun w => ∀ g, rsh [] (upds g []) fun t => Q (.exit 0) t w) (fun y2 w => ∀ g, rsh [(2, (.one .bool))] (upds g [(2, y2)]) fun t => Q .ret t w) n (t 1) (t 17) (t 18) (t 19) w) (fun _ _ h => h) (fun n t w h => ?_) n t w h).mono ?_
  · rw [F6_1_step] at h
    exact vc_sound mixed (orcNil F6_code) _ _ rfl (okC_at F6_code_ok [0, 0, 1, 0, 1, 1]) _ _ _ (rsh_out h)
  · intro o t w q
    cases o with
    | normal => exact q.elim
    | exit i =>
      unfold F6_1C at q
      simp only at q
      split at q
      · rename_i hi
        rw [nbeq] at hi
        subst hi
        exact out_ok [] q
      · exact q.elim
    | ret => exact out_ok [2] q
def F6 (x0 : Value) (w : World) (K : Value → World → Prop) : Prop :=
  exR38 fun s1 => x0 = s1.v ∧ (alc (.cells s1.c 39) w fun b2 w3 => alc (.cells #[(.slice none 0 0), .nilFunc, (.map none), (.int .i64 0)] 53) w3 fun b4 w5 => alc (.cells #[(.pointer none), (.pointer (some (Addr.mk b4 0 none)))] 24) w5 fun b6 w7 => ∃ k18 : Nat, F6_1 (fun w9 => ∀ _g10 : Tm, Calls Try.prog 8 #[] w9 fun e12 w11 => ∃ b13, e12 = .returned (.bool b13) ∧ (K (.bool b13) w11)) (fun y2_13 w15 => ∀ _g16 : Tm, rdB y2_13 fun b17 => K (.bool b17) w15) k18 (.pointer (some (Addr.mk b2 0 none))) (.slice (some (Addr.mk b6 0 none)) 2 2) (.int .i64 (2 : Int)) (.int .i64 0) w7)
theorem F6_step (x0 : Value) (w : World) (K : Value → World → Prop) : (F6 x0 w K) = rsh [(0, (.agg [(.int .i64), (.int .i64), (.int .i64)]))] (args0 #[x0]) (fun t => vc Try.prog (orcOf [([0, 1, 0, 1, 1], F6_1O)]) [] F6_code (retQ Try.prog Try.f6 K) t w) := by kernel_rfl
theorem F6_ok {x0 : Value} {w : World} {K : Value → World → Prop} (h : F6 x0 w K) : Calls Try.prog 6 #[x0] w fun e w' => ∃ v, e = .returned v ∧ K v w' := by
  rw [F6_step] at h
  exact calls_of (c := F6_code) mixed Try.func6 rfl (nlt rfl) (vc_sound mixed (orcCons (π := [0, 1, 0, 1, 1]) F6_1_ok (orcNil F6_code)) F6_code [] rfl F6_code_ok _ _ _ (rsh_out h))

/-! ropewalk/timers.New -/
noncomputable def F7_code : Code := Try.f7.body.getD .skip
theorem F7_code_ok : okC Try.prog Try.f7.ntmps F7_code = true := by kernel_rfl
def F7 (w : World) (K : Value → World → Prop) : Prop :=
  alc (.map #[] 0) w fun b1 w2 => alc (.cells #[(.slice none 0 0), (.func (.func 20) #[] #[]), (.map (some b1)), (.int .i64 0)] 53) w2 fun b3 w4 => K (.pointer (some (Addr.mk b3 0 none))) w4
theorem F7_step (w : World) (K : Value → World → Prop) : (F7  w K) = rsh [] (args0 #[]) (fun t => vc Try.prog (orcOf []) [] F7_code (retQ Try.prog Try.f7 K) t w) := by kernel_rfl
theorem F7_ok {w : World} {K : Value → World → Prop} (h : F7 w K) : Calls Try.prog 7 #[] w fun e w' => ∃ v, e = .returned v ∧ K v w' := by
  rw [F7_step] at h
  exact calls_of (c := F7_code) mixed Try.func7 rfl (nlt rfl) (vc_sound mixed (orcNil F7_code) F7_code [] rfl F7_code_ok _ _ _ (rsh_out h))

/-! ropewalk/ropewalklaw08.awake -/
noncomputable def F8_code : Code := Try.f8.body.getD .skip
theorem F8_code_ok : okC Try.prog Try.f8.ntmps F8_code = true := by kernel_rfl
def F8_1C (Kr : Value → World → Prop) : Post := fun o t w => match o with | .normal => False | .exit _ => (False) | .ret => Kr (t 0) w
def F8_1 (Kr : Value → World → Prop) (x1 : Value) (w : World) : Prop :=
  rdP x1 fun p1 => Calls Try.prog 10 #[(.pointer p1), (.int .i64 50)] w fun e3 w2 => ∃ l4a l4n l4c, ∃ n5, e3 = .returned (.tuple #[(.slice l4a l4n l4c), (.int .i64 n5)]) ∧ (br (n5 == 0) (alc (.cells #[(.int .i64 2), (.int .i64 40), (.int .i64 1), (.int .i64 50), (.int .i64 3), (.int .i64 50)] 30) w2 fun b6 w7 => Calls Try.prog 12 #[(.slice l4a l4n l4c), (.slice (some (Addr.mk b6 0 none)) 3 3)] w7 fun e9 w8 => ∃ b10, e9 = .returned (.bool b10) ∧ (Kr (.bool b10) w8)) (Kr (.bool false) w2))
def F8_1O (Q : Post) (t : Tm) (w : World) : Prop := F8_1 (fun y0 w => ∀ g, rsh [(0, (.one .bool))] (upds g [(0, y0)]) fun t => Q .ret t w) (t 1) w
theorem F8_1_step (Kr : Value → World → Prop) (t : Tm) (w : World) : (F8_1 Kr (t 1) w) = rsh [(1, (.one .ptr))] t (fun t => vc Try.prog (orcOf []) [1, 1, 1] (getAt F8_code [1, 1, 1]) (F8_1C Kr) t w) := by kernel_rfl
theorem F8_1_ok : ∀ Q t w, F8_1O Q t w → W Try.prog Try.f8.ntmps (getAt F8_code [1, 1, 1]) Q t w := by
  intro Q t w h
  unfold F8_1O at h
  rw [F8_1_step] at h
  refine (vc_sound mixed (orcNil F8_code) _ _ rfl (okC_at F8_code_ok [1, 1, 1]) _ _ _ (rsh_out h)).mono ?_
  intro o t w q
  cases o with
  | normal => exact q.elim
  | exit i => exact q.elim
  | ret => exact out_ok [0] q
def F8 (w : World) (K : Value → World → Prop) : Prop :=
  Calls Try.prog 7 #[] w fun e2 w1 => ∃ p3, e2 = .returned (.pointer p3) ∧ (br (Option.isNone p3) (K (.bool false) w1) (Calls Try.prog 9 #[(.pointer p3), (.int .i64 3), (.int .i64 50)] w1 fun e5 w4 => ∃ n6, e5 = .returned (.int .i64 n6) ∧ (br (n6 != 0) (K (.bool false) w4) (Calls Try.prog 9 #[(.pointer p3), (.int .i64 1), (.int .i64 50)] w4 fun e8 w7 => ∃ n9, e8 = .returned (.int .i64 n9) ∧ (br (n9 != 0) (K (.bool false) w7) (Calls Try.prog 9 #[(.pointer p3), (.int .i64 2), (.int .i64 40)] w7 fun e11 w10 => ∃ n12, e11 = .returned (.int .i64 n12) ∧ (br (n12 != 0) (K (.bool false) w10) (F8_1 (fun y0_12 w14 => ∀ _g15 : Tm, rdB y0_12 fun b16 => K (.bool b16) w14) (.pointer p3) w10))))))))
theorem F8_step (w : World) (K : Value → World → Prop) : (F8  w K) = rsh [] (args0 #[]) (fun t => vc Try.prog (orcOf [([1, 1, 1], F8_1O)]) [] F8_code (retQ Try.prog Try.f8 K) t w) := by kernel_rfl
theorem F8_ok {w : World} {K : Value → World → Prop} (h : F8 w K) : Calls Try.prog 8 #[] w fun e w' => ∃ v, e = .returned v ∧ K v w' := by
  rw [F8_step] at h
  exact calls_of (c := F8_code) mixed Try.func8 rfl (nlt rfl) (vc_sound mixed (orcCons (π := [1, 1, 1]) F8_1_ok (orcNil F8_code)) F8_code [] rfl F8_code_ok _ _ _ (rsh_out h))

/-! (*ropewalk/timers.Table).Set -/
noncomputable def F9_code : Code := Try.f9.body.getD .skip
theorem F9_code_ok : okC Try.prog Try.f9.ntmps F9_code = true := by kernel_rfl
def F9 (x0 : Value) (x1 : Value) (x2 : Value) (w : World) (K : Value → World → Prop) : Prop :=
  rdP x0 fun p1 => rdI .i64 x1 fun n2 => rdI .i64 x2 fun n3 => Calls Try.prog 22 #[(.pointer p1), (.int .i64 n2)] w fun e5 w4 => ∃ n6, e5 = .returned (.int .i64 n6) ∧ (br (n6 != 0) (K (.int .i64 n6) w4) (Calls Try.prog 23 #[(.int .i64 n3)] w4 fun e8 w7 => ∃ b9, e8 = .returned (.bool b9) ∧ (br (!b9) (K (.int .i64 80) w7) (nn p1 fun a10 => ldM (a10.add 2) w7 fun m11 => ∃ w12, Sem.run Try.prog (Instr.mapUpdate 51 (.map m11) (.int .i64 n2) (.int .i64 n3)) w7 = .ok () w12 ∧ (nn p1 fun a13 => Calls Try.prog 24 #[(.iface 63 (.pointer (some (a13.add 0)))), (.iface 30 (.agg #[(.int .i64 n2), (.int .i64 n3)]))] w12 fun e15 w14 => e15 = .returned (.tuple #[]) ∧ (nn p1 fun a16 => Calls Try.prog 25 #[(.pointer (some (a16.add 0)))] w14 fun e18 w17 => ∃ n19, e18 = .returned (.int .i64 n19) ∧ (br (decide ((n19 : Int) > 16384)) (Calls Try.prog 26 #[(.pointer p1)] w17 fun e21 w20 => e21 = .returned (.tuple #[]) ∧ (K (.int .i64 0) w20)) (K (.int .i64 0) w17))))))))
theorem F9_step (x0 : Value) (x1 : Value) (x2 : Value) (w : World) (K : Value → World → Prop) : (F9 x0 x1 x2 w K) = rsh [(0, (.one .ptr)), (1, (.one (.int .i64))), (2, (.one (.int .i64)))] (args0 #[x0, x1, x2]) (fun t => vc Try.prog (orcOf []) [] F9_code (retQ Try.prog Try.f9 K) t w) := by kernel_rfl
theorem F9_ok {x0 x1 x2 : Value} {w : World} {K : Value → World → Prop} (h : F9 x0 x1 x2 w K) : Calls Try.prog 9 #[x0, x1, x2] w fun e w' => ∃ v, e = .returned v ∧ K v w' := by
  rw [F9_step] at h
  exact calls_of (c := F9_code) mixed Try.func9 rfl (nlt rfl) (vc_sound mixed (orcNil F9_code) F9_code [] rfl F9_code_ok _ _ _ (rsh_out h))

/-! (*ropewalk/timers.Table).Due -/
noncomputable def F10_code : Code := Try.f10.body.getD .skip
theorem F10_code_ok : okC Try.prog Try.f10.ntmps F10_code = true := by kernel_rfl
def F10_1C (Kn : Value → Value → Value → World → Prop) : Post := fun o t w => match o with | .normal => Kn (t 0) (t 1) (t 6) w | .exit _ => (False) | .ret => False
def F10_1 (Kn : Value → Value → Value → World → Prop) (x0 : Value) (x1 : Value) (x6 : Value) (x7 : Value) (w : World) : Prop :=
  rdP x0 fun p1 => rdI .i64 x1 fun n2 => rdC x6 fun l3a l3n l3c => rdA x7 fun a4 => nn p1 fun a5 => Calls Try.prog 29 #[(.iface 63 (.pointer (some (a5.add 0))))] w fun e7 w6 => ∃ v8, e7 = .returned v8 ∧ (drw w6 fun w9 => nn p1 fun a10 => ldM (a10.add 2) w9 fun m11 => ldI .i64 (a4.add 0) w9 fun n12 => ∃ w13, Sem.run Try.prog (Builtin.delete_ #[51, 3] 0 #[(.map m11), (.int .i64 n12)]) w9 = .ok (.tuple #[]) w13 ∧ (ldI .i64 (a4.add 0) w13 fun n14 => ldI .i64 (a4.add 1) w13 fun n15 => alc (.cells #[(.int .i64 n14), (.int .i64 n15)] 30) w13 fun b16 w17 => ∃ l18a l18n l18c w19, Sem.run Try.prog (Builtin.append_ #[22, 22] 22 #[(.slice l3a l3n l3c), (.slice (some (Addr.mk b16 0 none)) 1 1)]) w17 = .ok (.slice l18a l18n l18c) w19 ∧ (Kn (.pointer p1) (.int .i64 n2) (.slice l18a l18n l18c) w19)))
def F10_1O (Q : Post) (t : Tm) (w : World) : Prop := F10_1 (fun y0 y1 y6 w => ∀ g, rsh [(0, (.one .ptr)), (1, (.one (.int .i64))), (6, (.one .slc))] (upds g [(0, y0), (1, y1), (6, y6)]) fun t => Q .normal t w) (t 0) (t 1) (t 6) (t 7) w
theorem F10_1_step (Kn : Value → Value → Value → World → Prop) (t : Tm) (w : World) : (F10_1 Kn (t 0) (t 1) (t 6) (t 7) w) = rsh [(0, (.one .ptr)), (1, (.one (.int .i64))), (6, (.one .slc)), (7, (.one .adr))] t (fun t => vc Try.prog (orcOf []) [1, 1, 0, 0, 0, 1, 1, 1, 1, 1] (getAt F10_code [1, 1, 0, 0, 0, 1, 1, 1, 1, 1]) (F10_1C Kn) t w) := by kernel_rfl
theorem F10_1_ok : ∀ Q t w, F10_1O Q t w → W Try.prog Try.f10.ntmps (getAt F10_code [1, 1, 0, 0, 0, 1, 1, 1, 1, 1]) Q t w := by
  intro Q t w h
  unfold F10_1O at h
  rw [F10_1_step] at h
  refine (vc_sound mixed (orcNil F10_code) _ _ rfl (okC_at F10_code_ok [1, 1, 0, 0, 0, 1, 1, 1, 1, 1]) _ _ _ (rsh_out h)).mono ?_
  intro o t w q
  cases o with
  | normal => exact out_ok [0, 1, 6] q
  | exit i => exact q.elim
  | ret => exact q.elim
def F10_2C (Kr : Value → Value → World → Prop) : Post := fun o t w => match o with | .normal => False | .exit _ => (False) | .ret => Kr (t 4) (t 5) w
def F10_2B (R : Value → Value → Value → World → Prop) (Kr : Value → Value → World → Prop) (x0 : Value) (x1 : Value) (x6 : Value) (w : World) : Prop :=
  rdP x0 fun p1 => rdI .i64 x1 fun n2 => rdC x6 fun l3a l3n l3c => Calls Try.prog 28 #[(.pointer p1)] w fun e5 w4 => ∃ n6 n7, ∃ b8, e5 = .returned (.tuple #[(.agg #[(.int .i64 n6), (.int .i64 n7)]), (.bool b8)]) ∧ (alc (.cells #[(.int .i64 0), (.int .i64 0)] 30) w4 fun b9 w10 => stc ((Addr.mk b9 0 none).add 0) (.int .i64 n6) w10 fun w11 => stc ((Addr.mk b9 0 none).add 1) (.int .i64 n7) w11 fun w12 => br (!b8) (Kr (.slice l3a l3n l3c) (.int .i64 0) w12) (ldI .i64 ((Addr.mk b9 0 none).add 1) w12 fun n13 => br (decide ((n13 : Int) > n2)) (Kr (.slice l3a l3n l3c) (.int .i64 0) w12) (F10_1 (fun y0_13 y1_13 y6_13 w15 => ∀ _g16 : Tm, rdP y0_13 fun p17 => rdI .i64 y1_13 fun n18 => rdC y6_13 fun l19a l19n l19c => R (.pointer p17) (.int .i64 n18) (.slice l19a l19n l19c) w15) (.pointer p1) (.int .i64 n2) (.slice l3a l3n l3c) (.pointer (some (Addr.mk b9 0 none))) w12)))
def F10_2 (Kr : Value → Value → World → Prop) : Nat → Value → Value → Value → World → Prop
  | 0 => fun _ _ _ _ => False
  | n + 1 => F10_2B (F10_2 Kr n) Kr
def F10_2O (Q : Post) (t : Tm) (w : World) : Prop := ∃ n, F10_2 (fun y4 y5 w => ∀ g, rsh [(4, (.one .slc)), (5, (.one (.int .i64)))] (upds g [(4, y4), (5, y5)]) fun t => Q .ret t w) n (t 0) (t 1) (t 6) w
theorem F10_2_step (Kr : Value → Value → World → Prop) (n : Nat) (t : Tm) (w : World) : (F10_2 Kr (n + 1) (t 0) (t 1) (t 6) w) = rsh [(0, (.one .ptr)), (1, (.one (.int .i64))), (6, (.one .slc))] t (fun t => vc Try.prog (orcOf [([1, 1, 0, 0, 0, 1, 1, 1, 1, 1], F10_1O)]) [0, 0, 1, 1, 1, 1, 1] (getAt F10_code [0, 0, 1, 1, 1, 1, 1]) (fun o t w => match o with | .normal => F10_2 Kr n (t 0) (t 1) (t 6) w | .exit i => F10_2C Kr (.exit i) t w | .ret => F10_2C Kr .ret t w) t w) := by kernel_rfl
theorem F10_2_ok : ∀ Q t w, F10_2O Q t w → W Try.prog Try.f10.ntmps (getAt F10_code [0, 1, 1, 1, 1, 1]) Q t w := by
  intro Q t w ⟨n, h⟩
  refine (W_loop (P := Try.prog) (b := getAt F10_code [0, 0, 1, 1, 1, 1, 1]) (Q := F10_2C (fun y4 y5 w => ∀ g, rsh [(4, (.one .slc)), (5, (.one (.int .i64)))] (upds g [(4, y4), (5, y5)]) fun t => Q .ret t w)) (G := fun n t w => F10_2 (fun y4 y5 w => ∀ g, rsh [(4, (.one .slc)), (5, (.one (.int .i64)))] (upds g [(4, y4), (5, y5)]) fun t => Q .ret t w) n (t 0) (t 1) (t 6) w) (fun _ _ h => h) (fun n t w h => ?_) n t w h).mono ?_
  · rw [F10_2_step] at h
    exact vc_sound mixed (orcCons (π := [1, 1, 0, 0, 0, 1, 1, 1, 1, 1]) F10_1_ok (orcNil F10_code)) _ _ rfl (okC_at F10_code_ok [0, 0, 1, 1, 1, 1, 1]) _ _ _ (rsh_out h)
  · intro o t w q
    cases o with
    | normal => exact q.elim
    | exit i => exact q.elim
    | ret => exact out_ok [4, 5] q
def F10_3C (Kr : Value → Value → World → Prop) : Post := fun o t w => match o with | .normal => False | .exit _ => (False) | .ret => Kr (t 4) (t 5) w
def F10_3 (Kr : Value → Value → World → Prop) (x0 : Value) (x1 : Value) (w : World) : Prop :=
  rdP x0 fun p1 => rdI .i64 x1 fun n2 => nn p1 fun a3 => stc (a3.add 3) (.int .i64 n2) w fun w4 => ∃ k10 : Nat, F10_2 (fun y4_4 y5_4 w6 => ∀ _g7 : Tm, rdC y4_4 fun l8a l8n l8c => rdI .i64 y5_4 fun n9 => Kr (.slice l8a l8n l8c) (.int .i64 n9) w6) k10 (.pointer p1) (.int .i64 n2) (.slice none 0 0) w4
def F10_3O (Q : Post) (t : Tm) (w : World) : Prop := F10_3 (fun y4 y5 w => ∀ g, rsh [(4, (.one .slc)), (5, (.one (.int .i64)))] (upds g [(4, y4), (5, y5)]) fun t => Q .ret t w) (t 0) (t 1) w
theorem F10_3_step (Kr : Value → Value → World → Prop) (t : Tm) (w : World) : (F10_3 Kr (t 0) (t 1) w) = rsh [(0, (.one .ptr)), (1, (.one (.int .i64)))] t (fun t => vc Try.prog (orcOf [([1, 1, 0, 0, 0, 1, 1, 1, 1, 1], F10_1O), ([0, 1, 1, 1, 1, 1], F10_2O)]) [1, 1, 1] (getAt F10_code [1, 1, 1]) (F10_3C Kr) t w) := by kernel_rfl
theorem F10_3_ok : ∀ Q t w, F10_3O Q t w → W Try.prog Try.f10.ntmps (getAt F10_code [1, 1, 1]) Q t w := by
  intro Q t w h
  unfold F10_3O at h
  rw [F10_3_step] at h
  refine (vc_sound mixed (orcCons (π := [1, 1, 0, 0, 0, 1, 1, 1, 1, 1]) F10_1_ok (orcCons (π := [0, 1, 1, 1, 1, 1]) F10_2_ok (orcNil F10_code))) _ _ rfl (okC_at F10_code_ok [1, 1, 1]) _ _ _ (rsh_out h)).mono ?_
  intro o t w q
  cases o with
  | normal => exact q.elim
  | exit i => exact q.elim
  | ret => exact out_ok [4, 5] q
def F10 (x0 : Value) (x1 : Value) (w : World) (K : Value → World → Prop) : Prop :=
  rdP x0 fun p1 => rdI .i64 x1 fun n2 => Calls Try.prog 27 #[(.pointer p1)] w fun e4 w3 => ∃ b5, e4 = .returned (.bool b5) ∧ (br (!b5) (K (.tuple #[(.slice none 0 0), (.int .i64 4)]) w3) (Calls Try.prog 23 #[(.int .i64 n2)] w3 fun e7 w6 => ∃ b8, e7 = .returned (.bool b8) ∧ (br (!b8) (K (.tuple #[(.slice none 0 0), (.int .i64 80)]) w6) (nn p1 fun a9 => ldI .i64 (a9.add 3) w6 fun n10 => br (decide ((n2 : Int) < n10)) (K (.tuple #[(.slice none 0 0), (.int .i64 80)]) w6) (F10_3 (fun y4_10 y5_10 w12 => ∀ _g13 : Tm, rdC y4_10 fun l14a l14n l14c => rdI .i64 y5_10 fun n15 => K (.tuple #[(.slice l14a l14n l14c), (.int .i64 n15)]) w12) (.pointer p1) (.int .i64 n2) w6)))))
theorem F10_step (x0 : Value) (x1 : Value) (w : World) (K : Value → World → Prop) : (F10 x0 x1 w K) = rsh [(0, (.one .ptr)), (1, (.one (.int .i64)))] (args0 #[x0, x1]) (fun t => vc Try.prog (orcOf [([1, 1, 0, 0, 0, 1, 1, 1, 1, 1], F10_1O), ([0, 1, 1, 1, 1, 1], F10_2O), ([1, 1, 1], F10_3O)]) [] F10_code (retQ Try.prog Try.f10 K) t w) := by kernel_rfl
theorem F10_ok {x0 x1 : Value} {w : World} {K : Value → World → Prop} (h : F10 x0 x1 w K) : Calls Try.prog 10 #[x0, x1] w fun e w' => ∃ v, e = .returned v ∧ K v w' := by
  rw [F10_step] at h
  exact calls_of (c := F10_code) mixed Try.func10 rfl (nlt rfl) (vc_sound mixed (orcCons (π := [1, 1, 0, 0, 0, 1, 1, 1, 1, 1]) F10_1_ok (orcCons (π := [0, 1, 1, 1, 1, 1]) F10_2_ok (orcCons (π := [1, 1, 1]) F10_3_ok (orcNil F10_code)))) F10_code [] rfl F10_code_ok _ _ _ (rsh_out h))

/-! ropewalk/ropewalkref08.Time -/
noncomputable def F11_code : Code := Try.f11.body.getD .skip
theorem F11_code_ok : okC Try.prog Try.f11.ntmps F11_code = true := by kernel_rfl
def F11 (x0 : Value) (w : World) (K : Value → World → Prop) : Prop :=
  rdI .i64 x0 fun n1 => br (decide ((n1 : Int) ≥ 0)) (K (.bool (decide ((n1 : Int) ≤ 1099511627776))) w) (K (.bool false) w)
theorem F11_step (x0 : Value) (w : World) (K : Value → World → Prop) : (F11 x0 w K) = rsh [(0, (.one (.int .i64)))] (args0 #[x0]) (fun t => vc Try.prog (orcOf []) [] F11_code (retQ Try.prog Try.f11 K) t w) := by kernel_rfl
theorem F11_ok {x0 : Value} {w : World} {K : Value → World → Prop} (h : F11 x0 w K) : Calls Try.prog 11 #[x0] w fun e w' => ∃ v, e = .returned v ∧ K v w' := by
  rw [F11_step] at h
  exact calls_of (c := F11_code) mixed Try.func11 rfl (nlt rfl) (vc_sound mixed (orcNil F11_code) F11_code [] rfl F11_code_ok _ _ _ (rsh_out h))

/-! ropewalk/ropewalkref08.Same -/
noncomputable def F12_code : Code := Try.f12.body.getD .skip
theorem F12_code_ok : okC Try.prog Try.f12.ntmps F12_code = true := by kernel_rfl
def F12_1C (K0 : World → Prop) (Kr : Value → World → Prop) : Post := fun o t w => match o with | .normal => False | .exit i => (match Nat.beq i 0 with | true => K0  w | false => False) | .ret => Kr (t 4) w
def F12_1B (R : Value → Value → Value → World → Prop) (K0 : World → Prop) (Kr : Value → World → Prop) (x0 : Value) (x1 : Value) (x5 : Value) (w : World) : Prop :=
  rdC x0 fun l1a l1n l1c => rdC x1 fun l2a l2n l2c => rdI .i64 x5 fun n3 => br (decide ((n3 : Int) < (l1n : Int))) (drw w fun w4 => ixS 2 l1a l1n n3 fun a5 => ldI .i64 (a5.add 0) w4 fun n6 => ldI .i64 (a5.add 1) w4 fun n7 => ixS 2 l2a l2n n3 fun a8 => ldI .i64 (a8.add 0) w4 fun n9 => ldI .i64 (a8.add 1) w4 fun n10 => ∃ b11, ∃ w12, Sem.run Try.prog (binF Try.prog .neq 30 (.tmp 20) (.tmp 24) (.agg #[(.int .i64 n6), (.int .i64 n7)]) (.agg #[(.int .i64 n9), (.int .i64 n10)])) w4 = .ok (.bool b11) w12 ∧ (br b11 (Kr (.bool false) w12) (R (.slice l1a l1n l1c) (.slice l2a l2n l2c) (.int .i64 (IntKind.wrap .i64 (n3 + 1))) w12))) (K0 w)
def F12_1 (K0 : World → Prop) (Kr : Value → World → Prop) : Nat → Value → Value → Value → World → Prop
  | 0 => fun _ _ _ _ => False
  | n + 1 => F12_1B (F12_1 K0 Kr n) K0 Kr
def F12_1O (Q : Post) (t : Tm) (w : World) : Prop := ∃ n, F12_1 (fun w => ∀ g, rsh [] (upds g []) fun t => Q (.exit 0) t w) (fun y4 w => ∀ g, rsh [(4, (.one .bool))] (upds g [(4, y4)]) fun t => Q .ret t w) n (t 0) (t 1) (t 5) w
theorem F12_1_step (K0 : World → Prop) (Kr : Value → World → Prop) (n : Nat) (t : Tm) (w : World) : (F12_1 K0 Kr (n + 1) (t 0) (t 1) (t 5) w) = rsh [(0, (.one .slc)), (1, (.one .slc)), (5, (.one (.int .i64)))] t (fun t => vc Try.prog (orcOf []) [0, 0, 1, 0, 1, 1] (getAt F12_code [0, 0, 1, 0, 1, 1]) (fun o t w => match o with | .normal => F12_1 K0 Kr n (t 0) (t 1) (t 5) w | .exit i => F12_1C K0 Kr (.exit i) t w | .ret => F12_1C K0 Kr .ret t w) t w) := by kernel_rfl
theorem F12_1_ok : ∀ Q t w, F12_1O Q t w → W Try.prog Try.f12.ntmps (getAt F12_code [0, 1, 0, 1, 1]) Q t w := by
  intro Q t w ⟨n, h⟩
  refine (W_loop (P := Try.prog) (b := getAt F12_code [0, 0, 1, 0, 1, 1]) (Q := F12_1C (fun w => ∀ g, rsh [] (upds g []) fun t => Q (.exit 0) t w) (fun y4 w => ∀ g, rsh [(4, (.one .bool))] (upds g [(4, y4)]) fun t => Q .ret t w)) (G := fun n t w => F12_1 (fun w => ∀ g, rsh [] (upds g []) fun t => Q (.exit 0) t w) (fun y4 w => ∀ g, rsh [(4, (.one .bool))] (upds g [(4, y4)]) fun t => Q .ret t w) n (t 0) (t 1) (t 5) w) (fun _ _ h => h) (fun n t w h => ?_) n t w h).mono ?_
  · rw [F12_1_step] at h
    exact vc_sound mixed (orcNil F12_code) _ _ rfl (okC_at F12_code_ok [0, 0, 1, 0, 1, 1]) _ _ _ (rsh_out h)
  · intro o t w q
    cases o with
    | normal => exact q.elim
    | exit i =>
      unfold F12_1C at q
      simp only at q
      split at q
      · rename_i hi
        rw [nbeq] at hi
        subst hi
        exact out_ok [] q
      · exact q.elim
    | ret => exact out_ok [4] q
def F12 (x0 : Value) (x1 : Value) (w : World) (K : Value → World → Prop) : Prop :=
  rdC x0 fun l1a l1n l1c => rdC x1 fun l2a l2n l2c => br ((l1n : Int) != (l2n : Int)) (K (.bool false) w) (∃ k10 : Nat, F12_1 (fun w4 => ∀ _g5 : Tm, K (.bool true) w4) (fun y4_5 w7 => ∀ _g8 : Tm, rdB y4_5 fun b9 => K (.bool b9) w7) k10 (.slice l1a l1n l1c) (.slice l2a l2n l2c) (.int .i64 0) w)
theorem F12_step (x0 : Value) (x1 : Value) (w : World) (K : Value → World → Prop) : (F12 x0 x1 w K) = rsh [(0, (.one .slc)), (1, (.one .slc))] (args0 #[x0, x1]) (fun t => vc Try.prog (orcOf [([0, 1, 0, 1, 1], F12_1O)]) [] F12_code (retQ Try.prog Try.f12 K) t w) := by kernel_rfl
theorem F12_ok {x0 x1 : Value} {w : World} {K : Value → World → Prop} (h : F12 x0 x1 w K) : Calls Try.prog 12 #[x0, x1] w fun e w' => ∃ v, e = .returned v ∧ K v w' := by
  rw [F12_step] at h
  exact calls_of (c := F12_code) mixed Try.func12 rfl (nlt rfl) (vc_sound mixed (orcCons (π := [0, 1, 0, 1, 1]) F12_1_ok (orcNil F12_code)) F12_code [] rfl F12_code_ok _ _ _ (rsh_out h))

/-! (*ropewalk/timers.Table).All -/
noncomputable def F13_code : Code := Try.f13.body.getD .skip
theorem F13_code_ok : okC Try.prog Try.f13.ntmps F13_code = true := by kernel_rfl
def F13 (x0 : Value) (w : World) (K : Value → World → Prop) : Prop :=
  rdP x0 fun p1 => Calls Try.prog 27 #[(.pointer p1)] w fun e3 w2 => ∃ b4, e3 = .returned (.bool b4) ∧ (br (!b4) (K (.slice none 0 0) w2) (Calls Try.prog 30 #[(.pointer p1)] w2 fun e6 w5 => ∃ l7a l7n l7c, e6 = .returned (.slice l7a l7n l7c) ∧ (K (.slice l7a l7n l7c) w5)))
theorem F13_step (x0 : Value) (w : World) (K : Value → World → Prop) : (F13 x0 w K) = rsh [(0, (.one .ptr))] (args0 #[x0]) (fun t => vc Try.prog (orcOf []) [] F13_code (retQ Try.prog Try.f13 K) t w) := by kernel_rfl
theorem F13_ok {x0 : Value} {w : World} {K : Value → World → Prop} (h : F13 x0 w K) : Calls Try.prog 13 #[x0] w fun e w' => ∃ v, e = .returned v ∧ K v w' := by
  rw [F13_step] at h
  exact calls_of (c := F13_code) mixed Try.func13 rfl (nlt rfl) (vc_sound mixed (orcNil F13_code) F13_code [] rfl F13_code_ok _ _ _ (rsh_out h))

/-! ropewalk/ropewalkref08.ID -/
noncomputable def F14_code : Code := Try.f14.body.getD .skip
theorem F14_code_ok : okC Try.prog Try.f14.ntmps F14_code = true := by kernel_rfl
def F14 (x0 : Value) (w : World) (K : Value → World → Prop) : Prop :=
  rdI .i64 x0 fun n1 => br (decide ((n1 : Int) ≥ 0)) (K (.bool (decide ((n1 : Int) < 4096))) w) (K (.bool false) w)
theorem F14_step (x0 : Value) (w : World) (K : Value → World → Prop) : (F14 x0 w K) = rsh [(0, (.one (.int .i64)))] (args0 #[x0]) (fun t => vc Try.prog (orcOf []) [] F14_code (retQ Try.prog Try.f14 K) t w) := by kernel_rfl
theorem F14_ok {x0 : Value} {w : World} {K : Value → World → Prop} (h : F14 x0 w K) : Calls Try.prog 14 #[x0] w fun e w' => ∃ v, e = .returned v ∧ K v w' := by
  rw [F14_step] at h
  exact calls_of (c := F14_code) mixed Try.func14 rfl (nlt rfl) (vc_sound mixed (orcNil F14_code) F14_code [] rfl F14_code_ok _ _ _ (rsh_out h))

/-! (*ropewalk/timers.Table).Stop -/
noncomputable def F15_code : Code := Try.f15.body.getD .skip
theorem F15_code_ok : okC Try.prog Try.f15.ntmps F15_code = true := by kernel_rfl
def F15 (x0 : Value) (x1 : Value) (w : World) (K : Value → World → Prop) : Prop :=
  rdP x0 fun p1 => rdI .i64 x1 fun n2 => Calls Try.prog 22 #[(.pointer p1), (.int .i64 n2)] w fun e4 w3 => ∃ n5, e4 = .returned (.int .i64 n5) ∧ (br (n5 != 0) (K (.tuple #[(.bool false), (.int .i64 n5)]) w3) (nn p1 fun a6 => ldM (a6.add 2) w3 fun m7 => ∃ n8, ∃ b9, lookF Try.prog 3 3 (.map m7) (.int .i64 n2) true w3 = some (.tuple #[(.int .i64 n8), (.bool b9)]) ∧ (nn p1 fun a10 => ldM (a10.add 2) w3 fun m11 => ∃ w12, Sem.run Try.prog (Builtin.delete_ #[51, 3] 0 #[(.map m11), (.int .i64 n2)]) w3 = .ok (.tuple #[]) w12 ∧ (K (.tuple #[(.bool b9), (.int .i64 0)]) w12))))
theorem F15_step (x0 : Value) (x1 : Value) (w : World) (K : Value → World → Prop) : (F15 x0 x1 w K) = rsh [(0, (.one .ptr)), (1, (.one (.int .i64)))] (args0 #[x0, x1]) (fun t => vc Try.prog (orcOf []) [] F15_code (retQ Try.prog Try.f15 K) t w) := by kernel_rfl
theorem F15_ok {x0 x1 : Value} {w : World} {K : Value → World → Prop} (h : F15 x0 x1 w K) : Calls Try.prog 15 #[x0, x1] w fun e w' => ∃ v, e = .returned v ∧ K v w' := by
  rw [F15_step] at h
  exact calls_of (c := F15_code) mixed Try.func15 rfl (nlt rfl) (vc_sound mixed (orcNil F15_code) F15_code [] rfl F15_code_ok _ _ _ (rsh_out h))

/-! (*ropewalk/timers.Table).Len -/
noncomputable def F16_code : Code := Try.f16.body.getD .skip
theorem F16_code_ok : okC Try.prog Try.f16.ntmps F16_code = true := by kernel_rfl
def F16 (x0 : Value) (w : World) (K : Value → World → Prop) : Prop :=
  rdP x0 fun p1 => Calls Try.prog 27 #[(.pointer p1)] w fun e3 w2 => ∃ b4, e3 = .returned (.bool b4) ∧ (br (!b4) (K (.int .i64 0) w2) (nn p1 fun a5 => ldM (a5.add 2) w2 fun m6 => ∃ n7 w8, Sem.run Try.prog (Builtin.len_ #[51] 3 #[(.map m6)]) w2 = .ok (.int .i64 n7) w8 ∧ (K (.int .i64 n7) w8)))
theorem F16_step (x0 : Value) (w : World) (K : Value → World → Prop) : (F16 x0 w K) = rsh [(0, (.one .ptr))] (args0 #[x0]) (fun t => vc Try.prog (orcOf []) [] F16_code (retQ Try.prog Try.f16 K) t w) := by kernel_rfl
theorem F16_ok {x0 : Value} {w : World} {K : Value → World → Prop} (h : F16 x0 w K) : Calls Try.prog 16 #[x0] w fun e w' => ∃ v, e = .returned v ∧ K v w' := by
  rw [F16_step] at h
  exact calls_of (c := F16_code) mixed Try.func16 rfl (nlt rfl) (vc_sound mixed (orcNil F16_code) F16_code [] rfl F16_code_ok _ _ _ (rsh_out h))

/-! ropewalk/ropewalklaw08.step -/
noncomputable def F17_code : Code := Try.f17.body.getD .skip
theorem F17_code_ok : okC Try.prog Try.f17.ntmps F17_code = true := by kernel_rfl
def F17_1C (Kr : Value → World → Prop) : Post := fun o t w => match o with | .normal => False | .exit _ => (False) | .ret => Kr (t 6) w
def F17_1 (Kr : Value → World → Prop) (x0 : Value) (x1 : Value) (x5 : Value) (w : World) : Prop :=
  rdP x0 fun p1 => rdP x1 fun p2 => rdA x5 fun a3 => Calls Try.prog 19 #[(.pointer p1)] w fun e5 w4 => ∃ n6 n7, ∃ b8, e5 = .returned (.tuple #[(.agg #[(.int .i64 n6), (.int .i64 n7)]), (.bool b8)]) ∧ (alc (.cells #[(.int .i64 0), (.int .i64 0)] 30) w4 fun b9 w10 => stc ((Addr.mk b9 0 none).add 0) (.int .i64 n6) w10 fun w11 => stc ((Addr.mk b9 0 none).add 1) (.int .i64 n7) w11 fun w12 => Calls Try.prog 34 #[(.pointer p2)] w12 fun e14 w13 => ∃ n15 n16, ∃ b17, e14 = .returned (.tuple #[(.agg #[(.int .i64 n15), (.int .i64 n16)]), (.bool b17)]) ∧ (alc (.cells #[(.int .i64 0), (.int .i64 0)] 30) w13 fun b18 w19 => stc ((Addr.mk b18 0 none).add 0) (.int .i64 n15) w19 fun w20 => stc ((Addr.mk b18 0 none).add 1) (.int .i64 n16) w20 fun w21 => ldI .i64 (a3.add 1) w21 fun n22 => Calls Try.prog 18 #[(.pointer p1), (.int .i64 n22)] w21 fun e24 w23 => ∃ n25, ∃ b26, e24 = .returned (.tuple #[(.int .i64 n25), (.bool b26)]) ∧ (ldI .i64 (a3.add 1) w23 fun n27 => Calls Try.prog 35 #[(.pointer p2), (.int .i64 n27)] w23 fun e29 w28 => ∃ n30, ∃ b31, e29 = .returned (.tuple #[(.int .i64 n30), (.bool b31)]) ∧ (drw w28 fun w32 => ∃ w33 : World, Pres w33 w32 ∧ (ldI .i64 ((Addr.mk b9 0 none).add 0) w32 fun n34 => ldI .i64 ((Addr.mk b9 0 none).add 1) w32 fun n35 => ldI .i64 ((Addr.mk b18 0 none).add 0) w32 fun n36 => ldI .i64 ((Addr.mk b18 0 none).add 1) w32 fun n37 => ∃ b38, ∃ w39, Sem.run Try.prog (binF Try.prog .eql 30 (.tmp 113) (.tmp 114) (.agg #[(.int .i64 n34), (.int .i64 n35)]) (.agg #[(.int .i64 n36), (.int .i64 n37)])) w32 = .ok (.bool b38) w39 ∧ (Pres w33 w39 ∧ (br b38 (br (b8 == b17) (br (n25 == n30) (br (b26 == b31) (nn p2 fun a40 => ldC (a40.add 0) w33 fun _ l41n _ => Calls Try.prog 16 #[(.pointer p1)] w39 fun e43 w42 => ∃ n44, e43 = .returned (.int .i64 n44) ∧ (Pres w33 w42 ∧ (br (n44 == (l41n : Int)) (nn p2 fun a45 => ldC (a45.add 0) w33 fun l46a l46n l46c => Calls Try.prog 13 #[(.pointer p1)] w42 fun e48 w47 => ∃ l49a l49n l49c, e48 = .returned (.slice l49a l49n l49c) ∧ (Pres w33 w47 ∧ (Calls Try.prog 12 #[(.slice l49a l49n l49c), (.slice l46a l46n l46c)] w47 fun e51 w50 => ∃ b52, e51 = .returned (.bool b52) ∧ (Kr (.bool b52) w50)))) (Kr (.bool false) w42)))) (Kr (.bool false) w39)) (Kr (.bool false) w39)) (Kr (.bool false) w39)) (Kr (.bool false) w39))))))))
def F17_1O (Q : Post) (t : Tm) (w : World) : Prop := F17_1 (fun y6 w => ∀ g, rsh [(6, (.one .bool))] (upds g [(6, y6)]) fun t => Q .ret t w) (t 0) (t 1) (t 5) w
theorem F17_1_step (Kr : Value → World → Prop) (t : Tm) (w : World) : (F17_1 Kr (t 0) (t 1) (t 5) w) = rsh [(0, (.one .ptr)), (1, (.one .ptr)), (5, (.one .adr))] t (fun t => vc Try.prog (orcOf []) [1, 1] (getAt F17_code [1, 1]) (F17_1C Kr) t w) := by kernel_rfl
theorem F17_1_ok : ∀ Q t w, F17_1O Q t w → W Try.prog Try.f17.ntmps (getAt F17_code [1, 1]) Q t w := by
  intro Q t w h
  unfold F17_1O at h
  rw [F17_1_step] at h
  refine (vc_sound mixed (orcNil F17_code) _ _ rfl (okC_at F17_code_ok [1, 1]) _ _ _ (rsh_out h)).mono ?_
  intro o t w q
  cases o with
  | normal => exact q.elim
  | exit i => exact q.elim
  | ret => exact out_ok [6] q
def F17 (x0 : Value) (x1 : Value) (x2 : Value) (w : World) (K : Value → World → Prop) : Prop :=
  rdP x0 fun p1 => rdP x1 fun p2 => exR38 fun s3 => x2 = s3.v ∧ (alc (.cells s3.c 39) w fun b4 w5 => ldI .i64 ((Addr.mk b4 0 none).add 0) w5 fun n6 => br (n6 == 1) (drw w5 fun w7 => ∃ w8 : World, Pres w8 w7 ∧ (ldI .i64 ((Addr.mk b4 0 none).add 1) w7 fun n9 => ldI .i64 ((Addr.mk b4 0 none).add 2) w7 fun n10 => ldI .i64 ((Addr.mk b4 0 none).add 1) w8 fun n11 => ldI .i64 ((Addr.mk b4 0 none).add 2) w8 fun n12 => Calls Try.prog 9 #[(.pointer p1), (.int .i64 n9), (.int .i64 n10)] w7 fun e14 w13 => ∃ n15, e14 = .returned (.int .i64 n15) ∧ (Pres w8 w13 ∧ (Calls Try.prog 31 #[(.pointer p2), (.int .i64 n11), (.int .i64 n12)] w13 fun e17 w16 => ∃ n18, e17 = .returned (.int .i64 n18) ∧ (br (n15 != n18) (K (.bool false) w16) (F17_1 (fun y6_18 w20 => ∀ _g21 : Tm, rdB y6_18 fun b22 => K (.bool b22) w20) (.pointer p1) (.pointer p2) (.pointer (some (Addr.mk b4 0 none))) w16)))))) (br (n6 == 2) (ldI .i64 ((Addr.mk b4 0 none).add 1) w5 fun n23 => Calls Try.prog 15 #[(.pointer p1), (.int .i64 n23)] w5 fun e25 w24 => ∃ b26, ∃ n27, e25 = .returned (.tuple #[(.bool b26), (.int .i64 n27)]) ∧ (ldI .i64 ((Addr.mk b4 0 none).add 1) w24 fun n28 => Calls Try.prog 32 #[(.pointer p2), (.int .i64 n28)] w24 fun e30 w29 => ∃ b31, ∃ n32, e30 = .returned (.tuple #[(.bool b31), (.int .i64 n32)]) ∧ (br (!(b26 == b31)) (K (.bool false) w29) (br (n27 != n32) (K (.bool false) w29) (F17_1 (fun y6_32 w34 => ∀ _g35 : Tm, rdB y6_32 fun b36 => K (.bool b36) w34) (.pointer p1) (.pointer p2) (.pointer (some (Addr.mk b4 0 none))) w29))))) (br (n6 == 3) (ldI .i64 ((Addr.mk b4 0 none).add 2) w5 fun n37 => Calls Try.prog 10 #[(.pointer p1), (.int .i64 n37)] w5 fun e39 w38 => ∃ l40a l40n l40c, ∃ n41, e39 = .returned (.tuple #[(.slice l40a l40n l40c), (.int .i64 n41)]) ∧ (ldI .i64 ((Addr.mk b4 0 none).add 2) w38 fun n42 => Calls Try.prog 33 #[(.pointer p2), (.int .i64 n42)] w38 fun e44 w43 => ∃ l45a l45n l45c, ∃ n46, e44 = .returned (.tuple #[(.slice l45a l45n l45c), (.int .i64 n46)]) ∧ (Calls Try.prog 12 #[(.slice l40a l40n l40c), (.slice l45a l45n l45c)] w43 fun e48 w47 => ∃ b49, e48 = .returned (.bool b49) ∧ (br (!b49) (K (.bool false) w47) (br (n41 != n46) (K (.bool false) w47) (F17_1 (fun y6_49 w51 => ∀ _g52 : Tm, rdB y6_49 fun b53 => K (.bool b53) w51) (.pointer p1) (.pointer p2) (.pointer (some (Addr.mk b4 0 none))) w47)))))) (F17_1 (fun y6_53 w55 => ∀ _g56 : Tm, rdB y6_53 fun b57 => K (.bool b57) w55) (.pointer p1) (.pointer p2) (.pointer (some (Addr.mk b4 0 none))) w5))))
theorem F17_step (x0 : Value) (x1 : Value) (x2 : Value) (w : World) (K : Value → World → Prop) : (F17 x0 x1 x2 w K) = rsh [(0, (.one .ptr)), (1, (.one .ptr)), (2, (.agg [(.int .i64), (.int .i64), (.int .i64)]))] (args0 #[x0, x1, x2]) (fun t => vc Try.prog (orcOf [([1, 1], F17_1O)]) [] F17_code (retQ Try.prog Try.f17 K) t w) := by kernel_rfl
theorem F17_ok {x0 x1 x2 : Value} {w : World} {K : Value → World → Prop} (h : F17 x0 x1 x2 w K) : Calls Try.prog 17 #[x0, x1, x2] w fun e w' => ∃ v, e = .returned v ∧ K v w' := by
  rw [F17_step] at h
  exact calls_of (c := F17_code) mixed Try.func17 rfl (nlt rfl) (vc_sound mixed (orcCons (π := [1, 1]) F17_1_ok (orcNil F17_code)) F17_code [] rfl F17_code_ok _ _ _ (rsh_out h))

/-! (*ropewalk/timers.Table).Get -/
noncomputable def F18_code : Code := Try.f18.body.getD .skip
theorem F18_code_ok : okC Try.prog Try.f18.ntmps F18_code = true := by kernel_rfl
def F18 (x0 : Value) (x1 : Value) (w : World) (K : Value → World → Prop) : Prop :=
  rdP x0 fun p1 => rdI .i64 x1 fun n2 => Calls Try.prog 27 #[(.pointer p1)] w fun e4 w3 => ∃ b5, e4 = .returned (.bool b5) ∧ (br (!b5) (K (.tuple #[(.int .i64 0), (.bool false)]) w3) (nn p1 fun a6 => ldM (a6.add 2) w3 fun m7 => ∃ n8, ∃ b9, lookF Try.prog 3 3 (.map m7) (.int .i64 n2) true w3 = some (.tuple #[(.int .i64 n8), (.bool b9)]) ∧ (K (.tuple #[(.int .i64 n8), (.bool b9)]) w3)))
theorem F18_step (x0 : Value) (x1 : Value) (w : World) (K : Value → World → Prop) : (F18 x0 x1 w K) = rsh [(0, (.one .ptr)), (1, (.one (.int .i64)))] (args0 #[x0, x1]) (fun t => vc Try.prog (orcOf []) [] F18_code (retQ Try.prog Try.f18 K) t w) := by kernel_rfl
theorem F18_ok {x0 x1 : Value} {w : World} {K : Value → World → Prop} (h : F18 x0 x1 w K) : Calls Try.prog 18 #[x0, x1] w fun e w' => ∃ v, e = .returned v ∧ K v w' := by
  rw [F18_step] at h
  exact calls_of (c := F18_code) mixed Try.func18 rfl (nlt rfl) (vc_sound mixed (orcNil F18_code) F18_code [] rfl F18_code_ok _ _ _ (rsh_out h))

/-! (*ropewalk/timers.Table).Next -/
noncomputable def F19_code : Code := Try.f19.body.getD .skip
theorem F19_code_ok : okC Try.prog Try.f19.ntmps F19_code = true := by kernel_rfl
def F19 (x0 : Value) (w : World) (K : Value → World → Prop) : Prop :=
  rdP x0 fun p1 => alc (.cells #[(.int .i64 0), (.int .i64 0)] 30) w fun b2 w3 => Calls Try.prog 27 #[(.pointer p1)] w3 fun e5 w4 => ∃ b6, e5 = .returned (.bool b6) ∧ (br (!b6) (stc ((Addr.mk b2 0 none).add 0) (.int .i64 0) w4 fun w7 => stc ((Addr.mk b2 0 none).add 1) (.int .i64 0) w7 fun w8 => ldI .i64 ((Addr.mk b2 0 none).add 0) w8 fun n9 => ldI .i64 ((Addr.mk b2 0 none).add 1) w8 fun n10 => K (.tuple #[(.agg #[(.int .i64 n9), (.int .i64 n10)]), (.bool false)]) w8) (Calls Try.prog 28 #[(.pointer p1)] w4 fun e12 w11 => ∃ n13 n14, ∃ b15, e12 = .returned (.tuple #[(.agg #[(.int .i64 n13), (.int .i64 n14)]), (.bool b15)]) ∧ (stc ((Addr.mk b2 0 none).add 0) (.int .i64 n13) w11 fun w16 => stc ((Addr.mk b2 0 none).add 1) (.int .i64 n14) w16 fun w17 => ldI .i64 ((Addr.mk b2 0 none).add 0) w17 fun n18 => ldI .i64 ((Addr.mk b2 0 none).add 1) w17 fun n19 => K (.tuple #[(.agg #[(.int .i64 n18), (.int .i64 n19)]), (.bool b15)]) w17)))
theorem F19_step (x0 : Value) (w : World) (K : Value → World → Prop) : (F19 x0 w K) = rsh [(0, (.one .ptr))] (args0 #[x0]) (fun t => vc Try.prog (orcOf []) [] F19_code (retQ Try.prog Try.f19 K) t w) := by kernel_rfl
theorem F19_ok {x0 : Value} {w : World} {K : Value → World → Prop} (h : F19 x0 w K) : Calls Try.prog 19 #[x0] w fun e w' => ∃ v, e = .returned v ∧ K v w' := by
  rw [F19_step] at h
  exact calls_of (c := F19_code) mixed Try.func19 rfl (nlt rfl) (vc_sound mixed (orcNil F19_code) F19_code [] rfl F19_code_ok _ _ _ (rsh_out h))

/-! ropewalk/timers.New$1 -/
noncomputable def F20_code : Code := Try.f20.body.getD .skip
theorem F20_code_ok : okC Try.prog Try.f20.ntmps F20_code = true := by kernel_rfl
def F20 (x0 : Value) (x1 : Value) (w : World) (K : Value → World → Prop) : Prop :=
  ∃ n1 n2, x0 = (.agg #[(.int .i64 n1), (.int .i64 n2)]) ∧ (∃ n3 n4, x1 = (.agg #[(.int .i64 n3), (.int .i64 n4)]) ∧ (alc (.cells #[(.int .i64 n1), (.int .i64 n2)] 30) w fun b5 w6 => alc (.cells #[(.int .i64 n3), (.int .i64 n4)] 30) w6 fun b7 w8 => ldI .i64 ((Addr.mk b5 0 none).add 0) w8 fun n9 => ldI .i64 ((Addr.mk b5 0 none).add 1) w8 fun n10 => ldI .i64 ((Addr.mk b7 0 none).add 0) w8 fun n11 => ldI .i64 ((Addr.mk b7 0 none).add 1) w8 fun n12 => Calls Try.prog 21 #[(.agg #[(.int .i64 n9), (.int .i64 n10)]), (.agg #[(.int .i64 n11), (.int .i64 n12)])] w8 fun e14 w13 => ∃ n15, e14 = .returned (.int .i64 n15) ∧ (K (.bool (decide ((n15 : Int) < 0))) w13)))
theorem F20_step (x0 : Value) (x1 : Value) (w : World) (K : Value → World → Prop) : (F20 x0 x1 w K) = rsh [(0, (.agg [(.int .i64), (.int .i64)])), (1, (.agg [(.int .i64), (.int .i64)]))] (args0 #[x0, x1]) (fun t => vc Try.prog (orcOf []) [] F20_code (retQ Try.prog Try.f20 K) t w) := by kernel_rfl
theorem F20_ok {x0 x1 : Value} {w : World} {K : Value → World → Prop} (h : F20 x0 x1 w K) : Calls Try.prog 20 #[x0, x1] w fun e w' => ∃ v, e = .returned v ∧ K v w' := by
  rw [F20_step] at h
  exact calls_of (c := F20_code) mixed Try.func20 rfl (nlt rfl) (vc_sound mixed (orcNil F20_code) F20_code [] rfl F20_code_ok _ _ _ (rsh_out h))

/-! ropewalk/timers.order -/
noncomputable def F21_code : Code := Try.f21.body.getD .skip
theorem F21_code_ok : okC Try.prog Try.f21.ntmps F21_code = true := by kernel_rfl
def F21 (x0 : Value) (x1 : Value) (w : World) (K : Value → World → Prop) : Prop :=
  ∃ n1 n2, x0 = (.agg #[(.int .i64 n1), (.int .i64 n2)]) ∧ (∃ n3 n4, x1 = (.agg #[(.int .i64 n3), (.int .i64 n4)]) ∧ (alc (.cells #[(.int .i64 n1), (.int .i64 n2)] 30) w fun b5 w6 => alc (.cells #[(.int .i64 n3), (.int .i64 n4)] 30) w6 fun b7 w8 => drw w8 fun w9 => ∃ w10 : World, Pres w10 w9 ∧ (ldI .i64 ((Addr.mk b5 0 none).add 1) w9 fun n11 => ldI .i64 ((Addr.mk b7 0 none).add 1) w9 fun n12 => ldI .i64 ((Addr.mk b5 0 none).add 0) w10 fun n13 => ldI .i64 ((Addr.mk b7 0 none).add 0) w10 fun n14 => Calls Try.prog 37 #[(.int .i64 n11), (.int .i64 n12)] w9 fun e16 w15 => ∃ n17, e16 = .returned (.int .i64 n17) ∧ (Pres w10 w15 ∧ (Calls Try.prog 37 #[(.int .i64 n13), (.int .i64 n14)] w15 fun e19 w18 => ∃ n20, e19 = .returned (.int .i64 n20) ∧ (alc (.cells #[(.int .i64 n17), (.int .i64 n20)] 3) w18 fun b21 w22 => Calls Try.prog 36 #[(.slice (some (Addr.mk b21 0 none)) 2 2)] w22 fun e24 w23 => ∃ n25, e24 = .returned (.int .i64 n25) ∧ (K (.int .i64 n25) w23)))))))
theorem F21_step (x0 : Value) (x1 : Value) (w : World) (K : Value → World → Prop) : (F21 x0 x1 w K) = rsh [(0, (.agg [(.int .i64), (.int .i64)])), (1, (.agg [(.int .i64), (.int .i64)]))] (args0 #[x0, x1]) (fun t => vc Try.prog (orcOf []) [] F21_code (retQ Try.prog Try.f21 K) t w) := by kernel_rfl
theorem F21_ok {x0 x1 : Value} {w : World} {K : Value → World → Prop} (h : F21 x0 x1 w K) : Calls Try.prog 21 #[x0, x1] w fun e w' => ∃ v, e = .returned v ∧ K v w' := by
  rw [F21_step] at h
  exact calls_of (c := F21_code) mixed Try.func21 rfl (nlt rfl) (vc_sound mixed (orcNil F21_code) F21_code [] rfl F21_code_ok _ _ _ (rsh_out h))

/-! (*ropewalk/timers.Table).known -/
noncomputable def F22_code : Code := Try.f22.body.getD .skip
theorem F22_code_ok : okC Try.prog Try.f22.ntmps F22_code = true := by kernel_rfl
def F22 (x0 : Value) (x1 : Value) (w : World) (K : Value → World → Prop) : Prop :=
  rdP x0 fun p1 => rdI .i64 x1 fun n2 => Calls Try.prog 27 #[(.pointer p1)] w fun e4 w3 => ∃ b5, e4 = .returned (.bool b5) ∧ (br (!b5) (K (.int .i64 4) w3) (br (decide ((n2 : Int) < 0)) (K (.int .i64 1) w3) (br (decide ((n2 : Int) ≥ 4096)) (K (.int .i64 1) w3) (K (.int .i64 0) w3))))
theorem F22_step (x0 : Value) (x1 : Value) (w : World) (K : Value → World → Prop) : (F22 x0 x1 w K) = rsh [(0, (.one .ptr)), (1, (.one (.int .i64)))] (args0 #[x0, x1]) (fun t => vc Try.prog (orcOf []) [] F22_code (retQ Try.prog Try.f22 K) t w) := by kernel_rfl
theorem F22_ok {x0 x1 : Value} {w : World} {K : Value → World → Prop} (h : F22 x0 x1 w K) : Calls Try.prog 22 #[x0, x1] w fun e w' => ∃ v, e = .returned v ∧ K v w' := by
  rw [F22_step] at h
  exact calls_of (c := F22_code) mixed Try.func22 rfl (nlt rfl) (vc_sound mixed (orcNil F22_code) F22_code [] rfl F22_code_ok _ _ _ (rsh_out h))

/-! ropewalk/timers.isTime -/
noncomputable def F23_code : Code := Try.f23.body.getD .skip
theorem F23_code_ok : okC Try.prog Try.f23.ntmps F23_code = true := by kernel_rfl
def F23 (x0 : Value) (w : World) (K : Value → World → Prop) : Prop :=
  rdI .i64 x0 fun n1 => br (decide ((n1 : Int) ≥ 0)) (K (.bool (decide ((n1 : Int) ≤ 1099511627776))) w) (K (.bool false) w)
theorem F23_step (x0 : Value) (w : World) (K : Value → World → Prop) : (F23 x0 w K) = rsh [(0, (.one (.int .i64)))] (args0 #[x0]) (fun t => vc Try.prog (orcOf []) [] F23_code (retQ Try.prog Try.f23 K) t w) := by kernel_rfl
theorem F23_ok {x0 : Value} {w : World} {K : Value → World → Prop} (h : F23 x0 w K) : Calls Try.prog 23 #[x0] w fun e w' => ∃ v, e = .returned v ∧ K v w' := by
  rw [F23_step] at h
  exact calls_of (c := F23_code) mixed Try.func23 rfl (nlt rfl) (vc_sound mixed (orcNil F23_code) F23_code [] rfl F23_code_ok _ _ _ (rsh_out h))

/-! container/heap.Push -/
noncomputable def F24_code : Code := Try.f24.body.getD .skip
theorem F24_code_ok : okC Try.prog Try.f24.ntmps F24_code = true := by kernel_rfl
def F24 (x0 : Value) (x1 : Value) (w : World) (K : Value → World → Prop) : Prop :=
  ∃ f1 q2 w3, Sem.run Try.prog (callMethod x0 "Push" #[x1]) w = .ok (.enter f1 q2) w3 ∧ (Calls Try.prog f1 q2 w3 fun e5 w4 => e5 = .returned (.tuple #[]) ∧ (∃ f6 q7 w8, Sem.run Try.prog (callMethod x0 "Len" #[]) w4 = .ok (.enter f6 q7) w8 ∧ (Calls Try.prog f6 q7 w8 fun e10 w9 => ∃ n11, e10 = .returned (.int .i64 n11) ∧ (Calls Try.prog 38 #[x0, (.int .i64 (IntKind.wrap .i64 (n11 - 1)))] w9 fun e13 w12 => e13 = .returned (.tuple #[]) ∧ (K (.tuple #[]) w12)))))
theorem F24_step (x0 : Value) (x1 : Value) (w : World) (K : Value → World → Prop) : (F24 x0 x1 w K) = rsh [] (args0 #[x0, x1]) (fun t => vc Try.prog (orcOf []) [] F24_code (retQ Try.prog Try.f24 K) t w) := by kernel_rfl
theorem F24_ok {x0 x1 : Value} {w : World} {K : Value → World → Prop} (h : F24 x0 x1 w K) : Calls Try.prog 24 #[x0, x1] w fun e w' => ∃ v, e = .returned v ∧ K v w' := by
  rw [F24_step] at h
  exact calls_of (c := F24_code) mixed Try.func24 rfl (nlt rfl) (vc_sound mixed (orcNil F24_code) F24_code [] rfl F24_code_ok _ _ _ (rsh_out h))

/-! (*ropewalk/timers.waiting[ropewalk/api.Due]).Len -/
noncomputable def F25_code : Code := Try.f25.body.getD .skip
theorem F25_code_ok : okC Try.prog Try.f25.ntmps F25_code = true := by kernel_rfl
def F25 (x0 : Value) (w : World) (K : Value → World → Prop) : Prop :=
  rdP x0 fun p1 => nn p1 fun a2 => ldC (a2.add 0) w fun _ l3n _ => K (.int .i64 (l3n : Int)) w
theorem F25_step (x0 : Value) (w : World) (K : Value → World → Prop) : (F25 x0 w K) = rsh [(0, (.one .ptr))] (args0 #[x0]) (fun t => vc Try.prog (orcOf []) [] F25_code (retQ Try.prog Try.f25 K) t w) := by kernel_rfl
theorem F25_ok {x0 : Value} {w : World} {K : Value → World → Prop} (h : F25 x0 w K) : Calls Try.prog 25 #[x0] w fun e w' => ∃ v, e = .returned v ∧ K v w' := by
  rw [F25_step] at h
  exact calls_of (c := F25_code) mixed Try.func25 rfl (nlt rfl) (vc_sound mixed (orcNil F25_code) F25_code [] rfl F25_code_ok _ _ _ (rsh_out h))

/-! (*ropewalk/timers.Table).tidy -/
noncomputable def F26_code : Code := Try.f26.body.getD .skip
theorem F26_code_ok : okC Try.prog Try.f26.ntmps F26_code = true := by kernel_rfl
def F26 (x0 : Value) (w : World) (K : Value → World → Prop) : Prop :=
  rdP x0 fun p1 => Calls Try.prog 30 #[(.pointer p1)] w fun e3 w2 => ∃ l4a l4n l4c, e3 = .returned (.slice l4a l4n l4c) ∧ (nn p1 fun a5 => stc ((a5.add 0).add 0) (.slice l4a l4n l4c) w2 fun w6 => nn p1 fun a7 => Calls Try.prog 39 #[(.iface 63 (.pointer (some (a7.add 0))))] w6 fun e9 w8 => e9 = .returned (.tuple #[]) ∧ (K (.tuple #[]) w8))
theorem F26_step (x0 : Value) (w : World) (K : Value → World → Prop) : (F26 x0 w K) = rsh [(0, (.one .ptr))] (args0 #[x0]) (fun t => vc Try.prog (orcOf []) [] F26_code (retQ Try.prog Try.f26 K) t w) := by kernel_rfl
theorem F26_ok {x0 : Value} {w : World} {K : Value → World → Prop} (h : F26 x0 w K) : Calls Try.prog 26 #[x0] w fun e w' => ∃ v, e = .returned v ∧ K v w' := by
  rw [F26_step] at h
  exact calls_of (c := F26_code) mixed Try.func26 rfl (nlt rfl) (vc_sound mixed (orcNil F26_code) F26_code [] rfl F26_code_ok _ _ _ (rsh_out h))

/-! (*ropewalk/timers.Table).is -/
noncomputable def F27_code : Code := Try.f27.body.getD .skip
theorem F27_code_ok : okC Try.prog Try.f27.ntmps F27_code = true := by kernel_rfl
def F27 (x0 : Value) (w : World) (K : Value → World → Prop) : Prop :=
  rdP x0 fun p1 => br (!(Option.isNone p1)) (nn p1 fun a2 => ldM (a2.add 2) w fun m3 => K (.bool (!(Option.isNone m3))) w) (K (.bool false) w)
theorem F27_step (x0 : Value) (w : World) (K : Value → World → Prop) : (F27 x0 w K) = rsh [(0, (.one .ptr))] (args0 #[x0]) (fun t => vc Try.prog (orcOf []) [] F27_code (retQ Try.prog Try.f27 K) t w) := by kernel_rfl
theorem F27_ok {x0 : Value} {w : World} {K : Value → World → Prop} (h : F27 x0 w K) : Calls Try.prog 27 #[x0] w fun e w' => ∃ v, e = .returned v ∧ K v w' := by
  rw [F27_step] at h
  exact calls_of (c := F27_code) mixed Try.func27 rfl (nlt rfl) (vc_sound mixed (orcNil F27_code) F27_code [] rfl F27_code_ok _ _ _ (rsh_out h))

/-! (*ropewalk/timers.Table).first -/
noncomputable def F28_code : Code := Try.f28.body.getD .skip
theorem F28_code_ok : okC Try.prog Try.f28.ntmps F28_code = true := by kernel_rfl
def F28_1C (Kn : Value → Value → World → Prop) : Post := fun o t w => match o with | .normal => Kn (t 0) (t 2) w | .exit _ => (False) | .ret => False
def F28_1 (Kn : Value → Value → World → Prop) (x0 : Value) (x2 : Value) (w : World) : Prop :=
  rdP x0 fun p1 => rdA x2 fun a2 => nn p1 fun a3 => Calls Try.prog 29 #[(.iface 63 (.pointer (some (a3.add 0))))] w fun e5 w4 => ∃ v6, e5 = .returned v6 ∧ (Kn (.pointer p1) (.pointer (some a2)) w4)
def F28_1O (Q : Post) (t : Tm) (w : World) : Prop := F28_1 (fun y0 y2 w => ∀ g, rsh [(0, (.one .ptr)), (2, (.one .adr))] (upds g [(0, y0), (2, y2)]) fun t => Q .normal t w) (t 0) (t 2) w
theorem F28_1_step (Kn : Value → Value → World → Prop) (t : Tm) (w : World) : (F28_1 Kn (t 0) (t 2) w) = rsh [(0, (.one .ptr)), (2, (.one .adr))] t (fun t => vc Try.prog (orcOf []) [1, 1, 0, 1, 0, 0, 0, 1] (getAt F28_code [1, 1, 0, 1, 0, 0, 0, 1]) (F28_1C Kn) t w) := by kernel_rfl
theorem F28_1_ok : ∀ Q t w, F28_1O Q t w → W Try.prog Try.f28.ntmps (getAt F28_code [1, 1, 0, 1, 0, 0, 0, 1]) Q t w := by
  intro Q t w h
  unfold F28_1O at h
  rw [F28_1_step] at h
  refine (vc_sound mixed (orcNil F28_code) _ _ rfl (okC_at F28_code_ok [1, 1, 0, 1, 0, 0, 0, 1]) _ _ _ (rsh_out h)).mono ?_
  intro o t w q
  cases o with
  | normal => exact out_ok [0, 2] q
  | exit i => exact q.elim
  | ret => exact q.elim
def F28_2C (K0 : Value → World → Prop) (Kr : Value → Value → World → Prop) : Post := fun o t w => match o with | .normal => False | .exit i => (match Nat.beq i 0 with | true => K0 (t 2) w | false => False) | .ret => Kr (t 2) (t 3) w
def F28_2B (R : Value → Value → World → Prop) (K0 : Value → World → Prop) (Kr : Value → Value → World → Prop) (x0 : Value) (x2 : Value) (w : World) : Prop :=
  rdP x0 fun p1 => rdA x2 fun a2 => nn p1 fun a3 => Calls Try.prog 25 #[(.pointer (some (a3.add 0)))] w fun e5 w4 => ∃ n6, e5 = .returned (.int .i64 n6) ∧ (br (decide ((n6 : Int) > 0)) (nn p1 fun a7 => ldC ((a7.add 0).add 0) w4 fun l8a l8n _ => ixS 2 l8a l8n 0 fun a9 => ldI .i64 (a9.add 0) w4 fun n10 => ldI .i64 (a9.add 1) w4 fun n11 => alc (.cells #[(.int .i64 0), (.int .i64 0)] 30) w4 fun b12 w13 => stc ((Addr.mk b12 0 none).add 0) (.int .i64 n10) w13 fun w14 => stc ((Addr.mk b12 0 none).add 1) (.int .i64 n11) w14 fun w15 => drw w15 fun w16 => nn p1 fun a17 => ldM (a17.add 2) w16 fun m18 => ldI .i64 ((Addr.mk b12 0 none).add 0) w16 fun n19 => ∃ n20, ∃ b21, lookF Try.prog 3 3 (.map m18) (.int .i64 n19) true w16 = some (.tuple #[(.int .i64 n20), (.bool b21)]) ∧ (br b21 (ldI .i64 ((Addr.mk b12 0 none).add 1) w16 fun n22 => br (n20 == n22) (ldI .i64 ((Addr.mk b12 0 none).add 0) w16 fun n23 => ldI .i64 ((Addr.mk b12 0 none).add 1) w16 fun n24 => stc (a2.add 0) (.int .i64 n23) w16 fun w25 => stc (a2.add 1) (.int .i64 n24) w25 fun w26 => Kr (.pointer (some a2)) (.bool true) w26) (F28_1 (fun y0_26 y2_26 w28 => ∀ _g29 : Tm, rdP y0_26 fun p30 => rdA y2_26 fun a31 => R (.pointer p30) (.pointer (some a31)) w28) (.pointer p1) (.pointer (some a2)) w16)) (F28_1 (fun y0_31 y2_31 w33 => ∀ _g34 : Tm, rdP y0_31 fun p35 => rdA y2_31 fun a36 => R (.pointer p35) (.pointer (some a36)) w33) (.pointer p1) (.pointer (some a2)) w16))) (K0 (.pointer (some a2)) w4))
def F28_2 (K0 : Value → World → Prop) (Kr : Value → Value → World → Prop) : Nat → Value → Value → World → Prop
  | 0 => fun _ _ _ => False
  | n + 1 => F28_2B (F28_2 K0 Kr n) K0 Kr
def F28_2O (Q : Post) (t : Tm) (w : World) : Prop := ∃ n, F28_2 (fun y2 w => ∀ g, rsh [(2, (.one .adr))] (upds g [(2, y2)]) fun t => Q (.exit 0) t w) (fun y2 y3 w => ∀ g, rsh [(2, (.one .adr)), (3, (.one .bool))] (upds g [(2, y2), (3, y3)]) fun t => Q .ret t w) n (t 0) (t 2) w
theorem F28_2_step (K0 : Value → World → Prop) (Kr : Value → Value → World → Prop) (n : Nat) (t : Tm) (w : World) : (F28_2 K0 Kr (n + 1) (t 0) (t 2) w) = rsh [(0, (.one .ptr)), (2, (.one .adr))] t (fun t => vc Try.prog (orcOf [([1, 1, 0, 1, 0, 0, 0, 1], F28_1O)]) [0, 0, 0, 1] (getAt F28_code [0, 0, 0, 1]) (fun o t w => match o with | .normal => F28_2 K0 Kr n (t 0) (t 2) w | .exit i => F28_2C K0 Kr (.exit i) t w | .ret => F28_2C K0 Kr .ret t w) t w) := by kernel_rfl
theorem F28_2_ok : ∀ Q t w, F28_2O Q t w → W Try.prog Try.f28.ntmps (getAt F28_code [0, 0, 1]) Q t w := by
  intro Q t w ⟨n, h⟩
  refine (W_loop (P := Try.prog) (b := getAt F28_code [0, 0, 0, 1]) (Q := F28_2C (fun y2 w => ∀ g, rsh [(2, (.one .adr))] (upds g [(2, y2)]) fun t => Q (.exit 0) t w) (fun y2 y3 w => ∀ g, rsh [(2, (.one .adr)), (3, (.one .bool))] (upds g [(2, y2), (3, y3)]) fun t => Q .ret t w)) (G := fun n t w => F28_2 (fun y2 w => ∀ g, rsh [(2, (.one .adr))] (upds g [(2, y2)]) fun t => Q (.exit 0) t w) (fun y2 y3 w => ∀ g, rsh [(2, (.one .adr)), (3, (.one .bool))] (upds g [(2, y2), (3, y3)]) fun t => Q .ret t w) n (t 0) (t 2) w) (fun _ _ h => h) (fun n t w h => ?_) n t w h).mono ?_
  · rw [F28_2_step] at h
    exact vc_sound mixed (orcCons (π := [1, 1, 0, 1, 0, 0, 0, 1]) F28_1_ok (orcNil F28_code)) _ _ rfl (okC_at F28_code_ok [0, 0, 0, 1]) _ _ _ (rsh_out h)
  · intro o t w q
    cases o with
    | normal => exact q.elim
    | exit i =>
      unfold F28_2C at q
      simp only at q
      split at q
      · rename_i hi
        rw [nbeq] at hi
        subst hi
        exact out_ok [2] q
      · exact q.elim
    | ret => exact out_ok [2, 3] q
def F28 (x0 : Value) (w : World) (K : Value → World → Prop) : Prop :=
  rdP x0 fun p1 => alc (.cells #[(.int .i64 0), (.int .i64 0)] 30) w fun b2 w3 => ∃ k19 : Nat, F28_2 (fun y2_3 w5 => ∀ _g6 : Tm, rdA y2_3 fun a7 => stc (a7.add 0) (.int .i64 0) w5 fun w8 => stc (a7.add 1) (.int .i64 0) w8 fun w9 => ldI .i64 (a7.add 0) w9 fun n10 => ldI .i64 (a7.add 1) w9 fun n11 => K (.tuple #[(.agg #[(.int .i64 n10), (.int .i64 n11)]), (.bool false)]) w9) (fun y2_11 y3_11 w13 => ∀ _g14 : Tm, rdA y2_11 fun a15 => rdB y3_11 fun b16 => ldI .i64 (a15.add 0) w13 fun n17 => ldI .i64 (a15.add 1) w13 fun n18 => K (.tuple #[(.agg #[(.int .i64 n17), (.int .i64 n18)]), (.bool b16)]) w13) k19 (.pointer p1) (.pointer (some (Addr.mk b2 0 none))) w3
theorem F28_step (x0 : Value) (w : World) (K : Value → World → Prop) : (F28 x0 w K) = rsh [(0, (.one .ptr))] (args0 #[x0]) (fun t => vc Try.prog (orcOf [([1, 1, 0, 1, 0, 0, 0, 1], F28_1O), ([0, 0, 1], F28_2O)]) [] F28_code (retQ Try.prog Try.f28 K) t w) := by kernel_rfl
theorem F28_ok {x0 : Value} {w : World} {K : Value → World → Prop} (h : F28 x0 w K) : Calls Try.prog 28 #[x0] w fun e w' => ∃ v, e = .returned v ∧ K v w' := by
  rw [F28_step] at h
  exact calls_of (c := F28_code) mixed Try.func28 rfl (nlt rfl) (vc_sound mixed (orcCons (π := [1, 1, 0, 1, 0, 0, 0, 1]) F28_1_ok (orcCons (π := [0, 0, 1]) F28_2_ok (orcNil F28_code))) F28_code [] rfl F28_code_ok _ _ _ (rsh_out h))

/-! container/heap.Pop -/
noncomputable def F29_code : Code := Try.f29.body.getD .skip
theorem F29_code_ok : okC Try.prog Try.f29.ntmps F29_code = true := by kernel_rfl
def F29 (x0 : Value) (w : World) (K : Value → World → Prop) : Prop :=
  ∃ f1 q2 w3, Sem.run Try.prog (callMethod x0 "Len" #[]) w = .ok (.enter f1 q2) w3 ∧ (Calls Try.prog f1 q2 w3 fun e5 w4 => ∃ n6, e5 = .returned (.int .i64 n6) ∧ (∃ f7 q8 w9, Sem.run Try.prog (callMethod x0 "Swap" #[(.int .i64 0), (.int .i64 (IntKind.wrap .i64 (n6 - 1)))]) w4 = .ok (.enter f7 q8) w9 ∧ (Calls Try.prog f7 q8 w9 fun e11 w10 => e11 = .returned (.tuple #[]) ∧ (Calls Try.prog 40 #[x0, (.int .i64 0), (.int .i64 (IntKind.wrap .i64 (n6 - 1)))] w10 fun e13 w12 => ∃ b14, e13 = .returned (.bool b14) ∧ (∃ f15 q16 w17, Sem.run Try.prog (callMethod x0 "Pop" #[]) w12 = .ok (.enter f15 q16) w17 ∧ (Calls Try.prog f15 q16 w17 fun e19 w18 => ∃ v20, e19 = .returned v20 ∧ (K v20 w18)))))))
theorem F29_step (x0 : Value) (w : World) (K : Value → World → Prop) : (F29 x0 w K) = rsh [] (args0 #[x0]) (fun t => vc Try.prog (orcOf []) [] F29_code (retQ Try.prog Try.f29 K) t w) := by kernel_rfl
theorem F29_ok {x0 : Value} {w : World} {K : Value → World → Prop} (h : F29 x0 w K) : Calls Try.prog 29 #[x0] w fun e w' => ∃ v, e = .returned v ∧ K v w' := by
  rw [F29_step] at h
  exact calls_of (c := F29_code) mixed Try.func29 rfl (nlt rfl) (vc_sound mixed (orcNil F29_code) F29_code [] rfl F29_code_ok _ _ _ (rsh_out h))

/-! (*ropewalk/timers.Table).all -/
noncomputable def F30_code : Code := Try.f30.body.getD .skip
theorem F30_code_ok : okC Try.prog Try.f30.ntmps F30_code = true := by kernel_rfl
def F30_1C (K0 : Value → World → Prop) : Post := fun o t w => match o with | .normal => False | .exit i => (match Nat.beq i 0 with | true => K0 (t 3) w | false => False) | .ret => False
def F30_1B (R : Value → Value → World → Prop) (K0 : Value → World → Prop) (x3 : Value) (x10 : Value) (w : World) : Prop :=
  rdC x3 fun l1a l1n l1c => ((∃ w2, Sem.run Try.prog (Instr.next x10 false 0) w = .ok (.tuple #[.bool false]) w2 ∧ (K0 (.slice l1a l1n l1c) w2)) ∨ (∃ k3 v4 w5, Sem.run Try.prog (Instr.next x10 false 0) w = .ok (.tuple #[.bool true, k3, v4]) w5 ∧ (∃ n6, ∃ n7, ∃ w8, Sem.run Try.prog (Instr.entry x10) w5 = .ok (.tuple #[(.int .i64 n6), (.int .i64 n7)]) w8 ∧ (alc (.cells #[(.int .i64 n6), (.int .i64 n7)] 30) w8 fun b9 w10 => ∃ l11a l11n l11c w12, Sem.run Try.prog (Builtin.append_ #[22, 22] 22 #[(.slice l1a l1n l1c), (.slice (some (Addr.mk b9 0 none)) 1 1)]) w10 = .ok (.slice l11a l11n l11c) w12 ∧ (R (.slice l11a l11n l11c) x10 w12)))))
def F30_1 (K0 : Value → World → Prop) : Nat → Value → Value → World → Prop
  | 0 => fun _ _ _ => False
  | n + 1 => F30_1B (F30_1 K0 n) K0
def F30_1O (Q : Post) (t : Tm) (w : World) : Prop := ∃ n, F30_1 (fun y3 w => ∀ g, rsh [(3, (.one .slc))] (upds g [(3, y3)]) fun t => Q (.exit 0) t w) n (t 3) (t 10) w
theorem F30_1_step (K0 : Value → World → Prop) (n : Nat) (t : Tm) (w : World) : (F30_1 K0 (n + 1) (t 3) (t 10) w) = rsh [(3, (.one .slc))] t (fun t => vc Try.prog (orcOf []) [0, 0, 1, 0, 1, 1] (getAt F30_code [0, 0, 1, 0, 1, 1]) (fun o t w => match o with | .normal => F30_1 K0 n (t 3) (t 10) w | .exit i => F30_1C K0 (.exit i) t w | .ret => F30_1C K0 .ret t w) t w) := by kernel_rfl
theorem F30_1_ok : ∀ Q t w, F30_1O Q t w → W Try.prog Try.f30.ntmps (getAt F30_code [0, 1, 0, 1, 1]) Q t w := by
  intro Q t w ⟨n, h⟩
  refine (W_loop (P := Try.prog) (b := getAt F30_code [0, 0, 1, 0, 1, 1]) (Q := F30_1C (fun y3 w => ∀ g, rsh [(3, (.one .slc))] (upds g [(3, y3)]) fun t => Q (.exit 0) t w)) (G := fun n t w => F30_1 (fun y3 w => ∀ g, rsh [(3, (.one .slc))] (upds g [(3, y3)]) fun t => Q (.exit 0) t w) n (t 3) (t 10) w) (fun _ _ h => h) (fun n t w h => ?_) n t w h).mono ?_
  · rw [F30_1_step] at h
    exact vc_sound mixed (orcNil F30_code) _ _ rfl (okC_at F30_code_ok [0, 0, 1, 0, 1, 1]) _ _ _ (rsh_out h)
  · intro o t w q
    cases o with
    | normal => exact q.elim
    | exit i =>
      unfold F30_1C at q
      simp only at q
      split at q
      · rename_i hi
        rw [nbeq] at hi
        subst hi
        exact out_ok [3] q
      · exact q.elim
    | ret => exact q.elim
def F30 (x0 : Value) (w : World) (K : Value → World → Prop) : Prop :=
  rdP x0 fun p1 => nn p1 fun a2 => ldM (a2.add 2) w fun m3 => ∃ p4, ∃ w5, Sem.run Try.prog (Instr.range 51 (.map m3)) w = .ok (.pointer p4) w5 ∧ (∃ k12 : Nat, F30_1 (fun y3_5 w7 => ∀ _g8 : Tm, rdC y3_5 fun l9a l9n l9c => Calls Try.prog 41 #[(.slice l9a l9n l9c), (.func (.func 21) #[] #[])] w7 fun e11 w10 => e11 = .returned (.tuple #[]) ∧ (K (.slice l9a l9n l9c) w10)) k12 (.slice none 0 0) (.pointer p4) w5)
theorem F30_step (x0 : Value) (w : World) (K : Value → World → Prop) : (F30 x0 w K) = rsh [(0, (.one .ptr))] (args0 #[x0]) (fun t => vc Try.prog (orcOf [([0, 1, 0, 1, 1], F30_1O)]) [] F30_code (retQ Try.prog Try.f30 K) t w) := by kernel_rfl
theorem F30_ok {x0 : Value} {w : World} {K : Value → World → Prop} (h : F30 x0 w K) : Calls Try.prog 30 #[x0] w fun e w' => ∃ v, e = .returned v ∧ K v w' := by
  rw [F30_step] at h
  exact calls_of (c := F30_code) mixed Try.func30 rfl (nlt rfl) (vc_sound mixed (orcCons (π := [0, 1, 0, 1, 1]) F30_1_ok (orcNil F30_code)) F30_code [] rfl F30_code_ok _ _ _ (rsh_out h))

/-! (*ropewalk/ropewalkref08.Table).Set -/
noncomputable def F31_code : Code := Try.f31.body.getD .skip
theorem F31_code_ok : okC Try.prog Try.f31.ntmps F31_code = true := by kernel_rfl
def F31_1C (K0 : Value → Value → Value → Value → World → Prop) : Post := fun o t w => match o with | .normal => False | .exit i => (match Nat.beq i 0 with | true => K0 (t 0) (t 1) (t 2) (t 7) w | false => False) | .ret => False
def F31_1B (R : Value → Value → Value → Value → World → Prop) (K0 : Value → Value → Value → Value → World → Prop) (x0 : Value) (x1 : Value) (x2 : Value) (x7 : Value) (w : World) : Prop :=
  rdP x0 fun p1 => rdI .i64 x1 fun n2 => rdI .i64 x2 fun n3 => rdI .i64 x7 fun n4 => nn p1 fun a5 => ldC (a5.add 0) w fun _ l6n _ => br (decide ((n4 : Int) < (l6n : Int))) (nn p1 fun a7 => ldC (a7.add 0) w fun l8a l8n _ => ixS 2 l8a l8n n4 fun a9 => ldI .i64 (a9.add 1) w fun n10 => br (decide ((n10 : Int) < n3)) (R (.pointer p1) (.int .i64 n2) (.int .i64 n3) (.int .i64 (IntKind.wrap .i64 (n4 + 1))) w) (nn p1 fun a11 => ldC (a11.add 0) w fun l12a l12n _ => ixS 2 l12a l12n n4 fun a13 => ldI .i64 (a13.add 1) w fun n14 => br (n14 == n3) (nn p1 fun a15 => ldC (a15.add 0) w fun l16a l16n _ => ixS 2 l16a l16n n4 fun a17 => ldI .i64 (a17.add 0) w fun n18 => br (decide ((n18 : Int) < n2)) (R (.pointer p1) (.int .i64 n2) (.int .i64 n3) (.int .i64 (IntKind.wrap .i64 (n4 + 1))) w) (K0 (.pointer p1) (.int .i64 n2) (.int .i64 n3) (.int .i64 n4) w)) (K0 (.pointer p1) (.int .i64 n2) (.int .i64 n3) (.int .i64 n4) w))) (K0 (.pointer p1) (.int .i64 n2) (.int .i64 n3) (.int .i64 n4) w)
def F31_1 (K0 : Value → Value → Value → Value → World → Prop) : Nat → Value → Value → Value → Value → World → Prop
  | 0 => fun _ _ _ _ _ => False
  | n + 1 => F31_1B (F31_1 K0 n) K0
def F31_1O (Q : Post) (t : Tm) (w : World) : Prop := ∃ n, F31_1 (fun y0 y1 y2 y7 w => ∀ g, rsh [(0, (.one .ptr)), (1, (.one (.int .i64))), (2, (.one (.int .i64))), (7, (.one (.int .i64)))] (upds g [(0, y0), (1, y1), (2, y2), (7, y7)]) fun t => Q (.exit 0) t w) n (t 0) (t 1) (t 2) (t 7) w
theorem F31_1_step (K0 : Value → Value → Value → Value → World → Prop) (n : Nat) (t : Tm) (w : World) : (F31_1 K0 (n + 1) (t 0) (t 1) (t 2) (t 7) w) = rsh [(0, (.one .ptr)), (1, (.one (.int .i64))), (2, (.one (.int .i64))), (7, (.one (.int .i64)))] t (fun t => vc Try.prog (orcOf []) [0, 0, 0, 1, 1, 1, 1, 1] (getAt F31_code [0, 0, 0, 1, 1, 1, 1, 1]) (fun o t w => match o with | .normal => F31_1 K0 n (t 0) (t 1) (t 2) (t 7) w | .exit i => F31_1C K0 (.exit i) t w | .ret => F31_1C K0 .ret t w) t w) := by kernel_rfl
theorem F31_1_ok : ∀ Q t w, F31_1O Q t w → W Try.prog Try.f31.ntmps (getAt F31_code [0, 0, 1, 1, 1, 1, 1]) Q t w := by
  intro Q t w ⟨n, h⟩
  refine (W_loop (P := Try.prog) (b := getAt F31_code [0, 0, 0, 1, 1, 1, 1, 1]) (Q := F31_1C (fun y0 y1 y2 y7 w => ∀ g, rsh [(0, (.one .ptr)), (1, (.one (.int .i64))), (2, (.one (.int .i64))), (7, (.one (.int .i64)))] (upds g [(0, y0), (1, y1), (2, y2), (7, y7)]) fun t => Q (.exit 0) t w)) (G := fun n t w => F31_1 (fun y0 y1 y2 y7 w => ∀ g, rsh [(0, (.one .ptr)), (1, (.one (.int .i64))), (2, (.one (.int .i64))), (7, (.one (.int .i64)))] (upds g [(0, y0), (1, y1), (2, y2), (7, y7)]) fun t => Q (.exit 0) t w) n (t 0) (t 1) (t 2) (t 7) w) (fun _ _ h => h) (fun n t w h => ?_) n t w h).mono ?_
  · rw [F31_1_step] at h
    exact vc_sound mixed (orcNil F31_code) _ _ rfl (okC_at F31_code_ok [0, 0, 0, 1, 1, 1, 1, 1]) _ _ _ (rsh_out h)
  · intro o t w q
    cases o with
    | normal => exact q.elim
    | exit i =>
      unfold F31_1C at q
      simp only at q
      split at q
      · rename_i hi
        rw [nbeq] at hi
        subst hi
        exact out_ok [0, 1, 2, 7] q
      · exact q.elim
    | ret => exact q.elim
def F31 (x0 : Value) (x1 : Value) (x2 : Value) (w : World) (K : Value → World → Prop) : Prop :=
  rdP x0 fun p1 => rdI .i64 x1 fun n2 => rdI .i64 x2 fun n3 => Calls Try.prog 14 #[(.int .i64 n2)] w fun e5 w4 => ∃ b6, e5 = .returned (.bool b6) ∧ (br (!b6) (K (.int .i64 1) w4) (Calls Try.prog 11 #[(.int .i64 n3)] w4 fun e8 w7 => ∃ b9, e8 = .returned (.bool b9) ∧ (br (!b9) (K (.int .i64 80) w7) (Calls Try.prog 32 #[(.pointer p1), (.int .i64 n2)] w7 fun e11 w10 => ∃ b12, ∃ n13, e11 = .returned (.tuple #[(.bool b12), (.int .i64 n13)]) ∧ (∃ k39 : Nat, F31_1 (fun y0_13 y1_13 y2_13 y7_13 w15 => ∀ _g16 : Tm, rdP y0_13 fun p17 => rdI .i64 y1_13 fun n18 => rdI .i64 y2_13 fun n19 => rdI .i64 y7_13 fun n20 => ∃ l21a l21n l21c, ∃ w22, Sem.run Try.prog (Instr.buildSlice 22 0 #[]) w15 = .ok (.slice l21a l21n l21c) w22 ∧ (nn p17 fun a23 => ldC (a23.add 0) w22 fun l24a l24n l24c => slS 2 l24a l24n l24c none (some (.int .i64 n20)) fun l25a l25n l25c => ∃ l26a l26n l26c w27, Sem.run Try.prog (Builtin.append_ #[22, 22] 22 #[(.slice l21a l21n l21c), (.slice l25a l25n l25c)]) w22 = .ok (.slice l26a l26n l26c) w27 ∧ (alc (.cells #[(.int .i64 n18), (.int .i64 n19)] 30) w27 fun b28 w29 => ∃ l30a l30n l30c w31, Sem.run Try.prog (Builtin.append_ #[22, 22] 22 #[(.slice l26a l26n l26c), (.slice (some (Addr.mk b28 0 none)) 1 1)]) w29 = .ok (.slice l30a l30n l30c) w31 ∧ (nn p17 fun a32 => ldC (a32.add 0) w31 fun l33a l33n l33c => slS 2 l33a l33n l33c (some (.int .i64 n20)) none fun l34a l34n l34c => ∃ l35a l35n l35c w36, Sem.run Try.prog (Builtin.append_ #[22, 22] 22 #[(.slice l30a l30n l30c), (.slice l34a l34n l34c)]) w31 = .ok (.slice l35a l35n l35c) w36 ∧ (nn p17 fun a37 => stc (a37.add 0) (.slice l35a l35n l35c) w36 fun w38 => K (.int .i64 0) w38))))) k39 (.pointer p1) (.int .i64 n2) (.int .i64 n3) (.int .i64 0) w10)))))
theorem F31_step (x0 : Value) (x1 : Value) (x2 : Value) (w : World) (K : Value → World → Prop) : (F31 x0 x1 x2 w K) = rsh [(0, (.one .ptr)), (1, (.one (.int .i64))), (2, (.one (.int .i64)))] (args0 #[x0, x1, x2]) (fun t => vc Try.prog (orcOf [([0, 0, 1, 1, 1, 1, 1], F31_1O)]) [] F31_code (retQ Try.prog Try.f31 K) t w) := by kernel_rfl
theorem F31_ok {x0 x1 x2 : Value} {w : World} {K : Value → World → Prop} (h : F31 x0 x1 x2 w K) : Calls Try.prog 31 #[x0, x1, x2] w fun e w' => ∃ v, e = .returned v ∧ K v w' := by
  rw [F31_step] at h
  exact calls_of (c := F31_code) mixed Try.func31 rfl (nlt rfl) (vc_sound mixed (orcCons (π := [0, 0, 1, 1, 1, 1, 1]) F31_1_ok (orcNil F31_code)) F31_code [] rfl F31_code_ok _ _ _ (rsh_out h))

/-! (*ropewalk/ropewalkref08.Table).Stop -/
noncomputable def F32_code : Code := Try.f32.body.getD .skip
theorem F32_code_ok : okC Try.prog Try.f32.ntmps F32_code = true := by kernel_rfl
def F32_1C (K0 : Value → Value → World → Prop) : Post := fun o t w => match o with | .normal => False | .exit i => (match Nat.beq i 0 with | true => K0 (t 0) (t 6) w | false => False) | .ret => False
def F32_1B (R : Value → Value → Value → Value → World → Prop) (K0 : Value → Value → World → Prop) (x0 : Value) (x1 : Value) (x6 : Value) (x7 : Value) (w : World) : Prop :=
  rdP x0 fun p1 => rdI .i64 x1 fun n2 => rdC x6 fun l3a l3n l3c => rdI .i64 x7 fun n4 => nn p1 fun a5 => ldC (a5.add 0) w fun _ l6n _ => br (decide ((n4 : Int) < (l6n : Int))) (nn p1 fun a7 => ldC (a7.add 0) w fun l8a l8n _ => ixS 2 l8a l8n n4 fun a9 => ldI .i64 (a9.add 0) w fun n10 => br (n10 != n2) (nn p1 fun a11 => ldC (a11.add 0) w fun l12a l12n _ => ixS 2 l12a l12n n4 fun a13 => ldI .i64 (a13.add 0) w fun n14 => ldI .i64 (a13.add 1) w fun n15 => alc (.cells #[(.int .i64 n14), (.int .i64 n15)] 30) w fun b16 w17 => ∃ l18a l18n l18c w19, Sem.run Try.prog (Builtin.append_ #[22, 22] 22 #[(.slice l3a l3n l3c), (.slice (some (Addr.mk b16 0 none)) 1 1)]) w17 = .ok (.slice l18a l18n l18c) w19 ∧ (R (.pointer p1) (.int .i64 n2) (.slice l18a l18n l18c) (.int .i64 (IntKind.wrap .i64 (n4 + 1))) w19)) (R (.pointer p1) (.int .i64 n2) (.slice l3a l3n l3c) (.int .i64 (IntKind.wrap .i64 (n4 + 1))) w)) (K0 (.pointer p1) (.slice l3a l3n l3c) w)
def F32_1 (K0 : Value → Value → World → Prop) : Nat → Value → Value → Value → Value → World → Prop
  | 0 => fun _ _ _ _ _ => False
  | n + 1 => F32_1B (F32_1 K0 n) K0
def F32_1O (Q : Post) (t : Tm) (w : World) : Prop := ∃ n, F32_1 (fun y0 y6 w => ∀ g, rsh [(0, (.one .ptr)), (6, (.one .slc))] (upds g [(0, y0), (6, y6)]) fun t => Q (.exit 0) t w) n (t 0) (t 1) (t 6) (t 7) w
theorem F32_1_step (K0 : Value → Value → World → Prop) (n : Nat) (t : Tm) (w : World) : (F32_1 K0 (n + 1) (t 0) (t 1) (t 6) (t 7) w) = rsh [(0, (.one .ptr)), (1, (.one (.int .i64))), (6, (.one .slc)), (7, (.one (.int .i64)))] t (fun t => vc Try.prog (orcOf []) [0, 0, 1, 0, 1, 1, 1] (getAt F32_code [0, 0, 1, 0, 1, 1, 1]) (fun o t w => match o with | .normal => F32_1 K0 n (t 0) (t 1) (t 6) (t 7) w | .exit i => F32_1C K0 (.exit i) t w | .ret => F32_1C K0 .ret t w) t w) := by kernel_rfl
theorem F32_1_ok : ∀ Q t w, F32_1O Q t w → W Try.prog Try.f32.ntmps (getAt F32_code [0, 1, 0, 1, 1, 1]) Q t w := by
  intro Q t w ⟨n, h⟩
  refine (W_loop (P := Try.prog) (b := getAt F32_code [0, 0, 1, 0, 1, 1, 1]) (Q := F32_1C (fun y0 y6 w => ∀ g, rsh [(0, (.one .ptr)), (6, (.one .slc))] (upds g [(0, y0), (6, y6)]) fun t => Q (.exit 0) t w)) (G := fun n t w => F32_1 (fun y0 y6 w => ∀ g, rsh [(0, (.one .ptr)), (6, (.one .slc))] (upds g [(0, y0), (6, y6)]) fun t => Q (.exit 0) t w) n (t 0) (t 1) (t 6) (t 7) w) (fun _ _ h => h) (fun n t w h => ?_) n t w h).mono ?_
  · rw [F32_1_step] at h
    exact vc_sound mixed (orcNil F32_code) _ _ rfl (okC_at F32_code_ok [0, 0, 1, 0, 1, 1, 1]) _ _ _ (rsh_out h)
  · intro o t w q
    cases o with
    | normal => exact q.elim
    | exit i =>
      unfold F32_1C at q
      simp only at q
      split at q
      · rename_i hi
        rw [nbeq] at hi
        subst hi
        exact out_ok [0, 6] q
      · exact q.elim
    | ret => exact q.elim
def F32 (x0 : Value) (x1 : Value) (w : World) (K : Value → World → Prop) : Prop :=
  rdP x0 fun p1 => rdI .i64 x1 fun n2 => Calls Try.prog 14 #[(.int .i64 n2)] w fun e4 w3 => ∃ b5, e4 = .returned (.bool b5) ∧ (br (!b5) (K (.tuple #[(.bool false), (.int .i64 1)]) w3) (∃ k15 : Nat, F32_1 (fun y0_5 y6_5 w7 => ∀ _g8 : Tm, rdP y0_5 fun p9 => rdC y6_5 fun l10a l10n l10c => nn p9 fun a11 => ldC (a11.add 0) w7 fun _ l12n _ => nn p9 fun a13 => stc (a13.add 0) (.slice l10a l10n l10c) w7 fun w14 => K (.tuple #[(.bool (decide (((l10n : Int) : Int) < (l12n : Int)))), (.int .i64 0)]) w14) k15 (.pointer p1) (.int .i64 n2) (.slice none 0 0) (.int .i64 0) w3))
theorem F32_step (x0 : Value) (x1 : Value) (w : World) (K : Value → World → Prop) : (F32 x0 x1 w K) = rsh [(0, (.one .ptr)), (1, (.one (.int .i64)))] (args0 #[x0, x1]) (fun t => vc Try.prog (orcOf [([0, 1, 0, 1, 1, 1], F32_1O)]) [] F32_code (retQ Try.prog Try.f32 K) t w) := by kernel_rfl
theorem F32_ok {x0 x1 : Value} {w : World} {K : Value → World → Prop} (h : F32 x0 x1 w K) : Calls Try.prog 32 #[x0, x1] w fun e w' => ∃ v, e = .returned v ∧ K v w' := by
  rw [F32_step] at h
  exact calls_of (c := F32_code) mixed Try.func32 rfl (nlt rfl) (vc_sound mixed (orcCons (π := [0, 1, 0, 1, 1, 1]) F32_1_ok (orcNil F32_code)) F32_code [] rfl F32_code_ok _ _ _ (rsh_out h))

/-! (*ropewalk/ropewalkref08.Table).Due -/
noncomputable def F33_code : Code := Try.f33.body.getD .skip
theorem F33_code_ok : okC Try.prog Try.f33.ntmps F33_code = true := by kernel_rfl
def F33_1C (K0 : Value → Value → World → Prop) : Post := fun o t w => match o with | .normal => False | .exit i => (match Nat.beq i 0 with | true => K0 (t 0) (t 6) w | false => False) | .ret => False
def F33_1B (R : Value → Value → Value → World → Prop) (K0 : Value → Value → World → Prop) (x0 : Value) (x1 : Value) (x6 : Value) (w : World) : Prop :=
  rdP x0 fun p1 => rdI .i64 x1 fun n2 => rdI .i64 x6 fun n3 => nn p1 fun a4 => ldC (a4.add 0) w fun _ l5n _ => br (decide ((n3 : Int) < (l5n : Int))) (nn p1 fun a6 => ldC (a6.add 0) w fun l7a l7n _ => ixS 2 l7a l7n n3 fun a8 => ldI .i64 (a8.add 1) w fun n9 => br (decide ((n9 : Int) ≤ n2)) (R (.pointer p1) (.int .i64 n2) (.int .i64 (IntKind.wrap .i64 (n3 + 1))) w) (K0 (.pointer p1) (.int .i64 n3) w)) (K0 (.pointer p1) (.int .i64 n3) w)
def F33_1 (K0 : Value → Value → World → Prop) : Nat → Value → Value → Value → World → Prop
  | 0 => fun _ _ _ _ => False
  | n + 1 => F33_1B (F33_1 K0 n) K0
def F33_1O (Q : Post) (t : Tm) (w : World) : Prop := ∃ n, F33_1 (fun y0 y6 w => ∀ g, rsh [(0, (.one .ptr)), (6, (.one (.int .i64)))] (upds g [(0, y0), (6, y6)]) fun t => Q (.exit 0) t w) n (t 0) (t 1) (t 6) w
theorem F33_1_step (K0 : Value → Value → World → Prop) (n : Nat) (t : Tm) (w : World) : (F33_1 K0 (n + 1) (t 0) (t 1) (t 6) w) = rsh [(0, (.one .ptr)), (1, (.one (.int .i64))), (6, (.one (.int .i64)))] t (fun t => vc Try.prog (orcOf []) [0, 0, 0, 1, 1, 1, 1] (getAt F33_code [0, 0, 0, 1, 1, 1, 1]) (fun o t w => match o with | .normal => F33_1 K0 n (t 0) (t 1) (t 6) w | .exit i => F33_1C K0 (.exit i) t w | .ret => F33_1C K0 .ret t w) t w) := by kernel_rfl
theorem F33_1_ok : ∀ Q t w, F33_1O Q t w → W Try.prog Try.f33.ntmps (getAt F33_code [0, 0, 1, 1, 1, 1]) Q t w := by
  intro Q t w ⟨n, h⟩
  refine (W_loop (P := Try.prog) (b := getAt F33_code [0, 0, 0, 1, 1, 1, 1]) (Q := F33_1C (fun y0 y6 w => ∀ g, rsh [(0, (.one .ptr)), (6, (.one (.int .i64)))] (upds g [(0, y0), (6, y6)]) fun t => Q (.exit 0) t w)) (G := fun n t w => F33_1 (fun y0 y6 w => ∀ g, rsh [(0, (.one .ptr)), (6, (.one (.int .i64)))] (upds g [(0, y0), (6, y6)]) fun t => Q (.exit 0) t w) n (t 0) (t 1) (t 6) w) (fun _ _ h => h) (fun n t w h => ?_) n t w h).mono ?_
  · rw [F33_1_step] at h
    exact vc_sound mixed (orcNil F33_code) _ _ rfl (okC_at F33_code_ok [0, 0, 0, 1, 1, 1, 1]) _ _ _ (rsh_out h)
  · intro o t w q
    cases o with
    | normal => exact q.elim
    | exit i =>
      unfold F33_1C at q
      simp only at q
      split at q
      · rename_i hi
        rw [nbeq] at hi
        subst hi
        exact out_ok [0, 6] q
      · exact q.elim
    | ret => exact q.elim
def F33_2C (Kr : Value → Value → World → Prop) : Post := fun o t w => match o with | .normal => False | .exit _ => (False) | .ret => Kr (t 4) (t 5) w
def F33_2 (Kr : Value → Value → World → Prop) (x0 : Value) (x1 : Value) (w : World) : Prop :=
  rdP x0 fun p1 => rdI .i64 x1 fun n2 => nn p1 fun a3 => stc (a3.add 1) (.int .i64 n2) w fun w4 => ∃ k26 : Nat, F33_1 (fun y0_4 y6_4 w6 => ∀ _g7 : Tm, rdP y0_4 fun p8 => rdI .i64 y6_4 fun n9 => ∃ l10a l10n l10c, ∃ w11, Sem.run Try.prog (Instr.buildSlice 22 0 #[]) w6 = .ok (.slice l10a l10n l10c) w11 ∧ (nn p8 fun a12 => ldC (a12.add 0) w11 fun l13a l13n l13c => slS 2 l13a l13n l13c none (some (.int .i64 n9)) fun l14a l14n l14c => ∃ l15a l15n l15c w16, Sem.run Try.prog (Builtin.append_ #[22, 22] 22 #[(.slice l10a l10n l10c), (.slice l14a l14n l14c)]) w11 = .ok (.slice l15a l15n l15c) w16 ∧ (∃ l17a l17n l17c, ∃ w18, Sem.run Try.prog (Instr.buildSlice 22 0 #[]) w16 = .ok (.slice l17a l17n l17c) w18 ∧ (nn p8 fun a19 => ldC (a19.add 0) w18 fun l20a l20n l20c => slS 2 l20a l20n l20c (some (.int .i64 n9)) none fun l21a l21n l21c => ∃ l22a l22n l22c w23, Sem.run Try.prog (Builtin.append_ #[22, 22] 22 #[(.slice l17a l17n l17c), (.slice l21a l21n l21c)]) w18 = .ok (.slice l22a l22n l22c) w23 ∧ (nn p8 fun a24 => stc (a24.add 0) (.slice l22a l22n l22c) w23 fun w25 => Kr (.slice l15a l15n l15c) (.int .i64 0) w25))))) k26 (.pointer p1) (.int .i64 n2) (.int .i64 0) w4
def F33_2O (Q : Post) (t : Tm) (w : World) : Prop := F33_2 (fun y4 y5 w => ∀ g, rsh [(4, (.one .slc)), (5, (.one (.int .i64)))] (upds g [(4, y4), (5, y5)]) fun t => Q .ret t w) (t 0) (t 1) w
theorem F33_2_step (Kr : Value → Value → World → Prop) (t : Tm) (w : World) : (F33_2 Kr (t 0) (t 1) w) = rsh [(0, (.one .ptr)), (1, (.one (.int .i64)))] t (fun t => vc Try.prog (orcOf [([0, 0, 1, 1, 1, 1], F33_1O)]) [1, 1] (getAt F33_code [1, 1]) (F33_2C Kr) t w) := by kernel_rfl
theorem F33_2_ok : ∀ Q t w, F33_2O Q t w → W Try.prog Try.f33.ntmps (getAt F33_code [1, 1]) Q t w := by
  intro Q t w h
  unfold F33_2O at h
  rw [F33_2_step] at h
  refine (vc_sound mixed (orcCons (π := [0, 0, 1, 1, 1, 1]) F33_1_ok (orcNil F33_code)) _ _ rfl (okC_at F33_code_ok [1, 1]) _ _ _ (rsh_out h)).mono ?_
  intro o t w q
  cases o with
  | normal => exact q.elim
  | exit i => exact q.elim
  | ret => exact out_ok [4, 5] q
def F33 (x0 : Value) (x1 : Value) (w : World) (K : Value → World → Prop) : Prop :=
  rdP x0 fun p1 => rdI .i64 x1 fun n2 => Calls Try.prog 11 #[(.int .i64 n2)] w fun e4 w3 => ∃ b5, e4 = .returned (.bool b5) ∧ (br (!b5) (K (.tuple #[(.slice none 0 0), (.int .i64 80)]) w3) (nn p1 fun a6 => ldI .i64 (a6.add 1) w3 fun n7 => br (decide ((n2 : Int) < n7)) (K (.tuple #[(.slice none 0 0), (.int .i64 80)]) w3) (F33_2 (fun y4_7 y5_7 w9 => ∀ _g10 : Tm, rdC y4_7 fun l11a l11n l11c => rdI .i64 y5_7 fun n12 => K (.tuple #[(.slice l11a l11n l11c), (.int .i64 n12)]) w9) (.pointer p1) (.int .i64 n2) w3)))
theorem F33_step (x0 : Value) (x1 : Value) (w : World) (K : Value → World → Prop) : (F33 x0 x1 w K) = rsh [(0, (.one .ptr)), (1, (.one (.int .i64)))] (args0 #[x0, x1]) (fun t => vc Try.prog (orcOf [([0, 0, 1, 1, 1, 1], F33_1O), ([1, 1], F33_2O)]) [] F33_code (retQ Try.prog Try.f33 K) t w) := by kernel_rfl
theorem F33_ok {x0 x1 : Value} {w : World} {K : Value → World → Prop} (h : F33 x0 x1 w K) : Calls Try.prog 33 #[x0, x1] w fun e w' => ∃ v, e = .returned v ∧ K v w' := by
  rw [F33_step] at h
  exact calls_of (c := F33_code) mixed Try.func33 rfl (nlt rfl) (vc_sound mixed (orcCons (π := [0, 0, 1, 1, 1, 1]) F33_1_ok (orcCons (π := [1, 1]) F33_2_ok (orcNil F33_code))) F33_code [] rfl F33_code_ok _ _ _ (rsh_out h))

/-! (*ropewalk/ropewalkref08.Table).Next -/
noncomputable def F34_code : Code := Try.f34.body.getD .skip
theorem F34_code_ok : okC Try.prog Try.f34.ntmps F34_code = true := by kernel_rfl
def F34 (x0 : Value) (w : World) (K : Value → World → Prop) : Prop :=
  rdP x0 fun p1 => alc (.cells #[(.int .i64 0), (.int .i64 0)] 30) w fun b2 w3 => nn p1 fun a4 => ldC (a4.add 0) w3 fun _ l5n _ => br ((l5n : Int) == 0) (stc ((Addr.mk b2 0 none).add 0) (.int .i64 0) w3 fun w6 => stc ((Addr.mk b2 0 none).add 1) (.int .i64 0) w6 fun w7 => ldI .i64 ((Addr.mk b2 0 none).add 0) w7 fun n8 => ldI .i64 ((Addr.mk b2 0 none).add 1) w7 fun n9 => K (.tuple #[(.agg #[(.int .i64 n8), (.int .i64 n9)]), (.bool false)]) w7) (nn p1 fun a10 => ldC (a10.add 0) w3 fun l11a l11n _ => ixS 2 l11a l11n 0 fun a12 => ldI .i64 (a12.add 0) w3 fun n13 => ldI .i64 (a12.add 1) w3 fun n14 => stc ((Addr.mk b2 0 none).add 0) (.int .i64 n13) w3 fun w15 => stc ((Addr.mk b2 0 none).add 1) (.int .i64 n14) w15 fun w16 => ldI .i64 ((Addr.mk b2 0 none).add 0) w16 fun n17 => ldI .i64 ((Addr.mk b2 0 none).add 1) w16 fun n18 => K (.tuple #[(.agg #[(.int .i64 n17), (.int .i64 n18)]), (.bool true)]) w16)
theorem F34_step (x0 : Value) (w : World) (K : Value → World → Prop) : (F34 x0 w K) = rsh [(0, (.one .ptr))] (args0 #[x0]) (fun t => vc Try.prog (orcOf []) [] F34_code (retQ Try.prog Try.f34 K) t w) := by kernel_rfl
theorem F34_ok {x0 : Value} {w : World} {K : Value → World → Prop} (h : F34 x0 w K) : Calls Try.prog 34 #[x0] w fun e w' => ∃ v, e = .returned v ∧ K v w' := by
  rw [F34_step] at h
  exact calls_of (c := F34_code) mixed Try.func34 rfl (nlt rfl) (vc_sound mixed (orcNil F34_code) F34_code [] rfl F34_code_ok _ _ _ (rsh_out h))

/-! (*ropewalk/ropewalkref08.Table).Get -/
noncomputable def F35_code : Code := Try.f35.body.getD .skip
theorem F35_code_ok : okC Try.prog Try.f35.ntmps F35_code = true := by kernel_rfl
def F35_1C (K0 : World → Prop) (Kr : Value → Value → World → Prop) : Post := fun o t w => match o with | .normal => False | .exit i => (match Nat.beq i 0 with | true => K0  w | false => False) | .ret => Kr (t 4) (t 5) w
def F35_1B (R : Value → Value → Value → World → Prop) (K0 : World → Prop) (Kr : Value → Value → World → Prop) (x0 : Value) (x1 : Value) (x6 : Value) (w : World) : Prop :=
  rdP x0 fun p1 => rdI .i64 x1 fun n2 => rdI .i64 x6 fun n3 => nn p1 fun a4 => ldC (a4.add 0) w fun _ l5n _ => br (decide ((n3 : Int) < (l5n : Int))) (nn p1 fun a6 => ldC (a6.add 0) w fun l7a l7n _ => ixS 2 l7a l7n n3 fun a8 => ldI .i64 (a8.add 0) w fun n9 => br (n9 == n2) (nn p1 fun a10 => ldC (a10.add 0) w fun l11a l11n _ => ixS 2 l11a l11n n3 fun a12 => ldI .i64 (a12.add 1) w fun n13 => Kr (.int .i64 n13) (.bool true) w) (R (.pointer p1) (.int .i64 n2) (.int .i64 (IntKind.wrap .i64 (n3 + 1))) w)) (K0 w)
def F35_1 (K0 : World → Prop) (Kr : Value → Value → World → Prop) : Nat → Value → Value → Value → World → Prop
  | 0 => fun _ _ _ _ => False
  | n + 1 => F35_1B (F35_1 K0 Kr n) K0 Kr
def F35_1O (Q : Post) (t : Tm) (w : World) : Prop := ∃ n, F35_1 (fun w => ∀ g, rsh [] (upds g []) fun t => Q (.exit 0) t w) (fun y4 y5 w => ∀ g, rsh [(4, (.one (.int .i64))), (5, (.one .bool))] (upds g [(4, y4), (5, y5)]) fun t => Q .ret t w) n (t 0) (t 1) (t 6) w
theorem F35_1_step (K0 : World → Prop) (Kr : Value → Value → World → Prop) (n : Nat) (t : Tm) (w : World) : (F35_1 K0 Kr (n + 1) (t 0) (t 1) (t 6) w) = rsh [(0, (.one .ptr)), (1, (.one (.int .i64))), (6, (.one (.int .i64)))] t (fun t => vc Try.prog (orcOf []) [0, 0, 1, 0, 1] (getAt F35_code [0, 0, 1, 0, 1]) (fun o t w => match o with | .normal => F35_1 K0 Kr n (t 0) (t 1) (t 6) w | .exit i => F35_1C K0 Kr (.exit i) t w | .ret => F35_1C K0 Kr .ret t w) t w) := by kernel_rfl
theorem F35_1_ok : ∀ Q t w, F35_1O Q t w → W Try.prog Try.f35.ntmps (getAt F35_code [0, 1, 0, 1]) Q t w := by
  intro Q t w ⟨n, h⟩
  refine (W_loop (P := Try.prog) (b := getAt F35_code [0, 0, 1, 0, 1]) (Q := F35_1C (fun w => ∀ g, rsh [] (upds g []) fun t => Q (.exit 0) t w) (fun y4 y5 w => ∀ g, rsh [(4, (.one (.int .i64))), (5, (.one .bool))] (upds g [(4, y4), (5, y5)]) fun t => Q .ret t w)) (G := fun n t w => F35_1 (fun w => ∀ g, rsh [] (upds g []) fun t => Q (.exit 0) t w) (fun y4 y5 w => ∀ g, rsh [(4, (.one (.int .i64))), (5, (.one .bool))] (upds g [(4, y4), (5, y5)]) fun t => Q .ret t w) n (t 0) (t 1) (t 6) w) (fun _ _ h => h) (fun n t w h => ?_) n t w h).mono ?_
  · rw [F35_1_step] at h
    exact vc_sound mixed (orcNil F35_code) _ _ rfl (okC_at F35_code_ok [0, 0, 1, 0, 1]) _ _ _ (rsh_out h)
  · intro o t w q
    cases o with
    | normal => exact q.elim
    | exit i =>
      unfold F35_1C at q
      simp only at q
      split at q
      · rename_i hi
        rw [nbeq] at hi
        subst hi
        exact out_ok [] q
      · exact q.elim
    | ret => exact out_ok [4, 5] q
def F35 (x0 : Value) (x1 : Value) (w : World) (K : Value → World → Prop) : Prop :=
  rdP x0 fun p1 => rdI .i64 x1 fun n2 => ∃ k11 : Nat, F35_1 (fun w4 => ∀ _g5 : Tm, K (.tuple #[(.int .i64 0), (.bool false)]) w4) (fun y4_5 y5_5 w7 => ∀ _g8 : Tm, rdI .i64 y4_5 fun n9 => rdB y5_5 fun b10 => K (.tuple #[(.int .i64 n9), (.bool b10)]) w7) k11 (.pointer p1) (.int .i64 n2) (.int .i64 0) w
theorem F35_step (x0 : Value) (x1 : Value) (w : World) (K : Value → World → Prop) : (F35 x0 x1 w K) = rsh [(0, (.one .ptr)), (1, (.one (.int .i64)))] (args0 #[x0, x1]) (fun t => vc Try.prog (orcOf [([0, 1, 0, 1], F35_1O)]) [] F35_code (retQ Try.prog Try.f35 K) t w) := by kernel_rfl
theorem F35_ok {x0 x1 : Value} {w : World} {K : Value → World → Prop} (h : F35 x0 x1 w K) : Calls Try.prog 35 #[x0, x1] w fun e w' => ∃ v, e = .returned v ∧ K v w' := by
  rw [F35_step] at h
  exact calls_of (c := F35_code) mixed Try.func35 rfl (nlt rfl) (vc_sound mixed (orcCons (π := [0, 1, 0, 1]) F35_1_ok (orcNil F35_code)) F35_code [] rfl F35_code_ok _ _ _ (rsh_out h))

/-! cmp.Or[int] -/
noncomputable def F36_code : Code := Try.f36.body.getD .skip
theorem F36_code_ok : okC Try.prog Try.f36.ntmps F36_code = true := by kernel_rfl
def F36_1C (K0 : Value → World → Prop) (Kr : Value → World → Prop) : Post := fun o t w => match o with | .normal => False | .exit i => (match Nat.beq i 0 with | true => K0 (t 3) w | false => False) | .ret => Kr (t 2) w
def F36_1B (R : Value → Value → Value → Value → World → Prop) (K0 : Value → World → Prop) (Kr : Value → World → Prop) (x3 : Value) (x6 : Value) (x7 : Value) (x8 : Value) (w : World) : Prop :=
  rdI .i64 x3 fun n1 => rdC x6 fun l2a l2n l2c => rdI .i64 x7 fun n3 => rdI .i64 x8 fun n4 => br (decide ((n4 : Int) < n3)) (ixS 1 l2a l2n n4 fun a5 => ldI .i64 a5 w fun n6 => br (n6 != n1) (Kr (.int .i64 n6) w) (R (.int .i64 n1) (.slice l2a l2n l2c) (.int .i64 n3) (.int .i64 (IntKind.wrap .i64 (n4 + 1))) w)) (K0 (.int .i64 n1) w)
def F36_1 (K0 : Value → World → Prop) (Kr : Value → World → Prop) : Nat → Value → Value → Value → Value → World → Prop
  | 0 => fun _ _ _ _ _ => False
  | n + 1 => F36_1B (F36_1 K0 Kr n) K0 Kr
def F36_1O (Q : Post) (t : Tm) (w : World) : Prop := ∃ n, F36_1 (fun y3 w => ∀ g, rsh [(3, (.one (.int .i64)))] (upds g [(3, y3)]) fun t => Q (.exit 0) t w) (fun y2 w => ∀ g, rsh [(2, (.one (.int .i64)))] (upds g [(2, y2)]) fun t => Q .ret t w) n (t 3) (t 6) (t 7) (t 8) w
theorem F36_1_step (K0 : Value → World → Prop) (Kr : Value → World → Prop) (n : Nat) (t : Tm) (w : World) : (F36_1 K0 Kr (n + 1) (t 3) (t 6) (t 7) (t 8) w) = rsh [(3, (.one (.int .i64))), (6, (.one .slc)), (7, (.one (.int .i64))), (8, (.one (.int .i64)))] t (fun t => vc Try.prog (orcOf []) [0, 0, 1, 0, 1, 1] (getAt F36_code [0, 0, 1, 0, 1, 1]) (fun o t w => match o with | .normal => F36_1 K0 Kr n (t 3) (t 6) (t 7) (t 8) w | .exit i => F36_1C K0 Kr (.exit i) t w | .ret => F36_1C K0 Kr .ret t w) t w) := by kernel_rfl
theorem F36_1_ok : ∀ Q t w, F36_1O Q t w → W Try.prog Try.f36.ntmps (getAt F36_code [0, 1, 0, 1, 1]) Q t w := by
  intro Q t w ⟨n, h⟩
  refine (W_loop (P := Try.prog) (b := getAt F36_code [0, 0, 1, 0, 1, 1]) (Q := F36_1C (fun y3 w => ∀ g, rsh [(3, (.one (.int .i64)))] (upds g [(3, y3)]) fun t => Q (.exit 0) t w) (fun y2 w => ∀ g, rsh [(2, (.one (.int .i64)))] (upds g [(2, y2)]) fun t => Q .ret t w)) (G := fun n t w => F36_1 (fun y3 w => ∀ g, rsh [(3, (.one (.int .i64)))] (upds g [(3, y3)]) fun t => Q (.exit 0) t w) (fun y2 w => ∀ g, rsh [(2, (.one (.int .i64)))] (upds g [(2, y2)]) fun t => Q .ret t w) n (t 3) (t 6) (t 7) (t 8) w) (fun _ _ h => h) (fun n t w h => ?_) n t w h).mono ?_
  · rw [F36_1_step] at h
    exact vc_sound mixed (orcNil F36_code) _ _ rfl (okC_at F36_code_ok [0, 0, 1, 0, 1, 1]) _ _ _ (rsh_out h)
  · intro o t w q
    cases o with
    | normal => exact q.elim
    | exit i =>
      unfold F36_1C at q
      simp only at q
      split at q
      · rename_i hi
        rw [nbeq] at hi
        subst hi
        exact out_ok [3] q
      · exact q.elim
    | ret => exact out_ok [2] q
def F36 (x0 : Value) (w : World) (K : Value → World → Prop) : Prop :=
  rdC x0 fun l1a l1n l1c => ∃ k10 : Nat, F36_1 (fun y3_1 w3 => ∀ _g4 : Tm, rdI .i64 y3_1 fun n5 => K (.int .i64 n5) w3) (fun y2_5 w7 => ∀ _g8 : Tm, rdI .i64 y2_5 fun n9 => K (.int .i64 n9) w7) k10 (.int .i64 0) (.slice l1a l1n l1c) (.int .i64 (l1n : Int)) (.int .i64 0) w
theorem F36_step (x0 : Value) (w : World) (K : Value → World → Prop) : (F36 x0 w K) = rsh [(0, (.one .slc))] (args0 #[x0]) (fun t => vc Try.prog (orcOf [([0, 1, 0, 1, 1], F36_1O)]) [] F36_code (retQ Try.prog Try.f36 K) t w) := by kernel_rfl
theorem F36_ok {x0 : Value} {w : World} {K : Value → World → Prop} (h : F36 x0 w K) : Calls Try.prog 36 #[x0] w fun e w' => ∃ v, e = .returned v ∧ K v w' := by
  rw [F36_step] at h
  exact calls_of (c := F36_code) mixed Try.func36 rfl (nlt rfl) (vc_sound mixed (orcCons (π := [0, 1, 0, 1, 1]) F36_1_ok (orcNil F36_code)) F36_code [] rfl F36_code_ok _ _ _ (rsh_out h))

/-! cmp.Compare[int] -/
noncomputable def F37_code : Code := Try.f37.body.getD .skip
theorem F37_code_ok : okC Try.prog Try.f37.ntmps F37_code = true := by kernel_rfl
def F37 (x0 : Value) (x1 : Value) (w : World) (K : Value → World → Prop) : Prop :=
  rdI .i64 x0 fun n1 => rdI .i64 x1 fun n2 => Calls Try.prog 42 #[(.int .i64 n1)] w fun e4 w3 => ∃ b5, e4 = .returned (.bool b5) ∧ (Calls Try.prog 42 #[(.int .i64 n2)] w3 fun e7 w6 => ∃ b8, e7 = .returned (.bool b8) ∧ (br b5 (br b8 (K (.int .i64 0) w6) (K (.int .i64 (-1)) w6)) (br b8 (K (.int .i64 1) w6) (br (decide ((n1 : Int) < n2)) (K (.int .i64 (-1)) w6) (br (decide ((n1 : Int) > n2)) (K (.int .i64 1) w6) (K (.int .i64 0) w6))))))
theorem F37_step (x0 : Value) (x1 : Value) (w : World) (K : Value → World → Prop) : (F37 x0 x1 w K) = rsh [(0, (.one (.int .i64))), (1, (.one (.int .i64)))] (args0 #[x0, x1]) (fun t => vc Try.prog (orcOf []) [] F37_code (retQ Try.prog Try.f37 K) t w) := by kernel_rfl
theorem F37_ok {x0 x1 : Value} {w : World} {K : Value → World → Prop} (h : F37 x0 x1 w K) : Calls Try.prog 37 #[x0, x1] w fun e w' => ∃ v, e = .returned v ∧ K v w' := by
  rw [F37_step] at h
  exact calls_of (c := F37_code) mixed Try.func37 rfl (nlt rfl) (vc_sound mixed (orcNil F37_code) F37_code [] rfl F37_code_ok _ _ _ (rsh_out h))

/-! container/heap.up -/
noncomputable def F38_code : Code := Try.f38.body.getD .skip
theorem F38_code_ok : okC Try.prog Try.f38.ntmps F38_code = true := by kernel_rfl
def F38_1C (K0 : World → Prop) : Post := fun o _ w => match o with | .normal => False | .exit i => (match Nat.beq i 0 with | true => K0  w | false => False) | .ret => False
def F38_1B (R : Value → Value → World → Prop) (K0 : World → Prop) (x0 : Value) (x1 : Value) (w : World) : Prop :=
  rdI .i64 x1 fun n1 => br ((IntKind.wrap .i64 (Int.tdiv (IntKind.wrap .i64 (n1 - 1)) 2)) == n1) (K0 w) (∃ f2 q3 w4, Sem.run Try.prog (callMethod x0 "Less" #[(.int .i64 n1), (.int .i64 (IntKind.wrap .i64 (Int.tdiv (IntKind.wrap .i64 (n1 - 1)) 2)))]) w = .ok (.enter f2 q3) w4 ∧ (Calls Try.prog f2 q3 w4 fun e6 w5 => ∃ b7, e6 = .returned (.bool b7) ∧ (br (!b7) (K0 w5) (∃ f8 q9 w10, Sem.run Try.prog (callMethod x0 "Swap" #[(.int .i64 (IntKind.wrap .i64 (Int.tdiv (IntKind.wrap .i64 (n1 - 1)) 2))), (.int .i64 n1)]) w5 = .ok (.enter f8 q9) w10 ∧ (Calls Try.prog f8 q9 w10 fun e12 w11 => e12 = .returned (.tuple #[]) ∧ (R x0 (.int .i64 (IntKind.wrap .i64 (Int.tdiv (IntKind.wrap .i64 (n1 - 1)) 2))) w11))))))
def F38_1 (K0 : World → Prop) : Nat → Value → Value → World → Prop
  | 0 => fun _ _ _ => False
  | n + 1 => F38_1B (F38_1 K0 n) K0
def F38_1O (Q : Post) (t : Tm) (w : World) : Prop := ∃ n, F38_1 (fun w => ∀ g, rsh [] (upds g []) fun t => Q (.exit 0) t w) n (t 0) (t 1) w
theorem F38_1_step (K0 : World → Prop) (n : Nat) (t : Tm) (w : World) : (F38_1 K0 (n + 1) (t 0) (t 1) w) = rsh [(1, (.one (.int .i64)))] t (fun t => vc Try.prog (orcOf []) [0, 0] (getAt F38_code [0, 0]) (fun o t w => match o with | .normal => F38_1 K0 n (t 0) (t 1) w | .exit i => F38_1C K0 (.exit i) t w | .ret => F38_1C K0 .ret t w) t w) := by kernel_rfl
theorem F38_1_ok : ∀ Q t w, F38_1O Q t w → W Try.prog Try.f38.ntmps (getAt F38_code [0]) Q t w := by
  intro Q t w ⟨n, h⟩
  refine (W_loop (P := Try.prog) (b := getAt F38_code [0, 0]) (Q := F38_1C (fun w => ∀ g, rsh [] (upds g []) fun t => Q (.exit 0) t w)) (G := fun n t w => F38_1 (fun w => ∀ g, rsh [] (upds g []) fun t => Q (.exit 0) t w) n (t 0) (t 1) w) (fun _ _ h => h) (fun n t w h => ?_) n t w h).mono ?_
  · rw [F38_1_step] at h
    exact vc_sound mixed (orcNil F38_code) _ _ rfl (okC_at F38_code_ok [0, 0]) _ _ _ (rsh_out h)
  · intro o t w q
    cases o with
    | normal => exact q.elim
    | exit i =>
      unfold F38_1C at q
      simp only at q
      split at q
      · rename_i hi
        rw [nbeq] at hi
        subst hi
        exact out_ok [] q
      · exact q.elim
    | ret => exact q.elim
def F38 (x0 : Value) (x1 : Value) (w : World) (K : Value → World → Prop) : Prop :=
  rdI .i64 x1 fun n1 => ∃ k5 : Nat, F38_1 (fun w3 => ∀ _g4 : Tm, K (.tuple #[]) w3) k5 x0 (.int .i64 n1) w
theorem F38_step (x0 : Value) (x1 : Value) (w : World) (K : Value → World → Prop) : (F38 x0 x1 w K) = rsh [(1, (.one (.int .i64)))] (args0 #[x0, x1]) (fun t => vc Try.prog (orcOf [([0], F38_1O)]) [] F38_code (retQ Try.prog Try.f38 K) t w) := by kernel_rfl
theorem F38_ok {x0 x1 : Value} {w : World} {K : Value → World → Prop} (h : F38 x0 x1 w K) : Calls Try.prog 38 #[x0, x1] w fun e w' => ∃ v, e = .returned v ∧ K v w' := by
  rw [F38_step] at h
  exact calls_of (c := F38_code) mixed Try.func38 rfl (nlt rfl) (vc_sound mixed (orcCons (π := [0]) F38_1_ok (orcNil F38_code)) F38_code [] rfl F38_code_ok _ _ _ (rsh_out h))

/-! container/heap.Init -/
noncomputable def F39_code : Code := Try.f39.body.getD .skip
theorem F39_code_ok : okC Try.prog Try.f39.ntmps F39_code = true := by kernel_rfl
def F39_1C (K0 : World → Prop) : Post := fun o _ w => match o with | .normal => False | .exit i => (match Nat.beq i 0 with | true => K0  w | false => False) | .ret => False
def F39_1B (R : Value → Value → Value → World → Prop) (K0 : World → Prop) (x0 : Value) (x2 : Value) (x3 : Value) (w : World) : Prop :=
  rdI .i64 x2 fun n1 => rdI .i64 x3 fun n2 => br (decide ((n2 : Int) ≥ 0)) (Calls Try.prog 40 #[x0, (.int .i64 n2), (.int .i64 n1)] w fun e4 w3 => ∃ b5, e4 = .returned (.bool b5) ∧ (R x0 (.int .i64 n1) (.int .i64 (IntKind.wrap .i64 (n2 - 1))) w3)) (K0 w)
def F39_1 (K0 : World → Prop) : Nat → Value → Value → Value → World → Prop
  | 0 => fun _ _ _ _ => False
  | n + 1 => F39_1B (F39_1 K0 n) K0
def F39_1O (Q : Post) (t : Tm) (w : World) : Prop := ∃ n, F39_1 (fun w => ∀ g, rsh [] (upds g []) fun t => Q (.exit 0) t w) n (t 0) (t 2) (t 3) w
theorem F39_1_step (K0 : World → Prop) (n : Nat) (t : Tm) (w : World) : (F39_1 K0 (n + 1) (t 0) (t 2) (t 3) w) = rsh [(2, (.one (.int .i64))), (3, (.one (.int .i64)))] t (fun t => vc Try.prog (orcOf []) [0, 0, 1, 1] (getAt F39_code [0, 0, 1, 1]) (fun o t w => match o with | .normal => F39_1 K0 n (t 0) (t 2) (t 3) w | .exit i => F39_1C K0 (.exit i) t w | .ret => F39_1C K0 .ret t w) t w) := by kernel_rfl
theorem F39_1_ok : ∀ Q t w, F39_1O Q t w → W Try.prog Try.f39.ntmps (getAt F39_code [0, 1, 1]) Q t w := by
  intro Q t w ⟨n, h⟩
  refine (W_loop (P := Try.prog) (b := getAt F39_code [0, 0, 1, 1]) (Q := F39_1C (fun w => ∀ g, rsh [] (upds g []) fun t => Q (.exit 0) t w)) (G := fun n t w => F39_1 (fun w => ∀ g, rsh [] (upds g []) fun t => Q (.exit 0) t w) n (t 0) (t 2) (t 3) w) (fun _ _ h => h) (fun n t w h => ?_) n t w h).mono ?_
  · rw [F39_1_step] at h
    exact vc_sound mixed (orcNil F39_code) _ _ rfl (okC_at F39_code_ok [0, 0, 1, 1]) _ _ _ (rsh_out h)
  · intro o t w q
    cases o with
    | normal => exact q.elim
    | exit i =>
      unfold F39_1C at q
      simp only at q
      split at q
      · rename_i hi
        rw [nbeq] at hi
        subst hi
        exact out_ok [] q
      · exact q.elim
    | ret => exact q.elim
def F39 (x0 : Value) (w : World) (K : Value → World → Prop) : Prop :=
  ∃ f1 q2 w3, Sem.run Try.prog (callMethod x0 "Len" #[]) w = .ok (.enter f1 q2) w3 ∧ (Calls Try.prog f1 q2 w3 fun e5 w4 => ∃ n6, e5 = .returned (.int .i64 n6) ∧ (∃ k10 : Nat, F39_1 (fun w8 => ∀ _g9 : Tm, K (.tuple #[]) w8) k10 x0 (.int .i64 n6) (.int .i64 (IntKind.wrap .i64 ((IntKind.wrap .i64 (Int.tdiv n6 2)) - 1))) w4))
theorem F39_step (x0 : Value) (w : World) (K : Value → World → Prop) : (F39 x0 w K) = rsh [] (args0 #[x0]) (fun t => vc Try.prog (orcOf [([0, 1, 1], F39_1O)]) [] F39_code (retQ Try.prog Try.f39 K) t w) := by kernel_rfl
theorem F39_ok {x0 : Value} {w : World} {K : Value → World → Prop} (h : F39 x0 w K) : Calls Try.prog 39 #[x0] w fun e w' => ∃ v, e = .returned v ∧ K v w' := by
  rw [F39_step] at h
  exact calls_of (c := F39_code) mixed Try.func39 rfl (nlt rfl) (vc_sound mixed (orcCons (π := [0, 1, 1]) F39_1_ok (orcNil F39_code)) F39_code [] rfl F39_code_ok _ _ _ (rsh_out h))

/-! container/heap.down -/
noncomputable def F40_code : Code := Try.f40.body.getD .skip
theorem F40_code_ok : okC Try.prog Try.f40.ntmps F40_code = true := by kernel_rfl
def F40_1C (K0 : Value → Value → World → Prop) (Kn : Value → Value → Value → Value → World → Prop) : Post := fun o t w => match o with | .normal => Kn (t 0) (t 1) (t 2) (t 7) w | .exit i => (match Nat.beq i 0 with | true => K0 (t 1) (t 7) w | false => False) | .ret => False
def F40_1 (K0 : Value → Value → World → Prop) (Kn : Value → Value → Value → Value → World → Prop) (x0 : Value) (x1 : Value) (x2 : Value) (x7 : Value) (x8 : Value) (w : World) : Prop :=
  rdI .i64 x1 fun n1 => rdI .i64 x2 fun n2 => rdI .i64 x7 fun n3 => rdI .i64 x8 fun n4 => br (decide (((IntKind.wrap .i64 (n4 + 1)) : Int) < n2)) (∃ f5 q6 w7, Sem.run Try.prog (callMethod x0 "Less" #[(.int .i64 (IntKind.wrap .i64 (n4 + 1))), (.int .i64 n4)]) w = .ok (.enter f5 q6) w7 ∧ (Calls Try.prog f5 q6 w7 fun e9 w8 => ∃ b10, e9 = .returned (.bool b10) ∧ (br b10 (∃ f11 q12 w13, Sem.run Try.prog (callMethod x0 "Less" #[(.int .i64 (IntKind.wrap .i64 (n4 + 1))), (.int .i64 n3)]) w8 = .ok (.enter f11 q12) w13 ∧ (Calls Try.prog f11 q12 w13 fun e15 w14 => ∃ b16, e15 = .returned (.bool b16) ∧ (br (!b16) (K0 (.int .i64 n1) (.int .i64 n3) w14) (∃ f17 q18 w19, Sem.run Try.prog (callMethod x0 "Swap" #[(.int .i64 n3), (.int .i64 (IntKind.wrap .i64 (n4 + 1)))]) w14 = .ok (.enter f17 q18) w19 ∧ (Calls Try.prog f17 q18 w19 fun e21 w20 => e21 = .returned (.tuple #[]) ∧ (Kn x0 (.int .i64 n1) (.int .i64 n2) (.int .i64 (IntKind.wrap .i64 (n4 + 1))) w20)))))) (∃ f22 q23 w24, Sem.run Try.prog (callMethod x0 "Less" #[(.int .i64 n4), (.int .i64 n3)]) w8 = .ok (.enter f22 q23) w24 ∧ (Calls Try.prog f22 q23 w24 fun e26 w25 => ∃ b27, e26 = .returned (.bool b27) ∧ (br (!b27) (K0 (.int .i64 n1) (.int .i64 n3) w25) (∃ f28 q29 w30, Sem.run Try.prog (callMethod x0 "Swap" #[(.int .i64 n3), (.int .i64 n4)]) w25 = .ok (.enter f28 q29) w30 ∧ (Calls Try.prog f28 q29 w30 fun e32 w31 => e32 = .returned (.tuple #[]) ∧ (Kn x0 (.int .i64 n1) (.int .i64 n2) (.int .i64 n4) w31))))))))) (∃ f33 q34 w35, Sem.run Try.prog (callMethod x0 "Less" #[(.int .i64 n4), (.int .i64 n3)]) w = .ok (.enter f33 q34) w35 ∧ (Calls Try.prog f33 q34 w35 fun e37 w36 => ∃ b38, e37 = .returned (.bool b38) ∧ (br (!b38) (K0 (.int .i64 n1) (.int .i64 n3) w36) (∃ f39 q40 w41, Sem.run Try.prog (callMethod x0 "Swap" #[(.int .i64 n3), (.int .i64 n4)]) w36 = .ok (.enter f39 q40) w41 ∧ (Calls Try.prog f39 q40 w41 fun e43 w42 => e43 = .returned (.tuple #[]) ∧ (Kn x0 (.int .i64 n1) (.int .i64 n2) (.int .i64 n4) w42))))))
def F40_1O (Q : Post) (t : Tm) (w : World) : Prop := F40_1 (fun y1 y7 w => ∀ g, rsh [(1, (.one (.int .i64))), (7, (.one (.int .i64)))] (upds g [(1, y1), (7, y7)]) fun t => Q (.exit 0) t w) (fun y0 y1 y2 y7 w => ∀ g, rsh [(1, (.one (.int .i64))), (2, (.one (.int .i64))), (7, (.one (.int .i64)))] (upds g [(0, y0), (1, y1), (2, y2), (7, y7)]) fun t => Q .normal t w) (t 0) (t 1) (t 2) (t 7) (t 8) w
theorem F40_1_step (K0 : Value → Value → World → Prop) (Kn : Value → Value → Value → Value → World → Prop) (t : Tm) (w : World) : (F40_1 K0 Kn (t 0) (t 1) (t 2) (t 7) (t 8) w) = rsh [(1, (.one (.int .i64))), (2, (.one (.int .i64))), (7, (.one (.int .i64))), (8, (.one (.int .i64)))] t (fun t => vc Try.prog (orcOf []) [1, 1, 0, 0, 0, 0, 1, 1] (getAt F40_code [1, 1, 0, 0, 0, 0, 1, 1]) (F40_1C K0 Kn) t w) := by kernel_rfl
theorem F40_1_ok : ∀ Q t w, F40_1O Q t w → W Try.prog Try.f40.ntmps (getAt F40_code [1, 1, 0, 0, 0, 0, 1, 1]) Q t w := by
  intro Q t w h
  unfold F40_1O at h
  rw [F40_1_step] at h
  refine (vc_sound mixed (orcNil F40_code) _ _ rfl (okC_at F40_code_ok [1, 1, 0, 0, 0, 0, 1, 1]) _ _ _ (rsh_out h)).mono ?_
  intro o t w q
  cases o with
  | normal => exact out_ok [0, 1, 2, 7] q
  | exit i =>
      unfold F40_1C at q
      simp only at q
      split at q
      · rename_i hi
        rw [nbeq] at hi
        subst hi
        exact out_ok [1, 7] q
      · exact q.elim
  | ret => exact q.elim
def F40_2C (K0 : Value → Value → World → Prop) : Post := fun o t w => match o with | .normal => False | .exit i => (match Nat.beq i 0 with | true => K0 (t 1) (t 7) w | false => False) | .ret => False
def F40_2B (R : Value → Value → Value → Value → World → Prop) (K0 : Value → Value → World → Prop) (x0 : Value) (x1 : Value) (x2 : Value) (x7 : Value) (w : World) : Prop :=
  rdI .i64 x1 fun n1 => rdI .i64 x2 fun n2 => rdI .i64 x7 fun n3 => br (decide (((IntKind.wrap .i64 ((IntKind.wrap .i64 (2 * n3)) + 1)) : Int) ≥ n2)) (K0 (.int .i64 n1) (.int .i64 n3) w) (br (decide (((IntKind.wrap .i64 ((IntKind.wrap .i64 (2 * n3)) + 1)) : Int) < 0)) (K0 (.int .i64 n1) (.int .i64 n3) w) (F40_1 (fun y1_3 y7_3 w5 => ∀ _g6 : Tm, rdI .i64 y1_3 fun n7 => rdI .i64 y7_3 fun n8 => K0 (.int .i64 n7) (.int .i64 n8) w5) (fun y0_8 y1_8 y2_8 y7_8 w10 => ∀ _g11 : Tm, rdI .i64 y1_8 fun n12 => rdI .i64 y2_8 fun n13 => rdI .i64 y7_8 fun n14 => R y0_8 (.int .i64 n12) (.int .i64 n13) (.int .i64 n14) w10) x0 (.int .i64 n1) (.int .i64 n2) (.int .i64 n3) (.int .i64 (IntKind.wrap .i64 ((IntKind.wrap .i64 (2 * n3)) + 1))) w))
def F40_2 (K0 : Value → Value → World → Prop) : Nat → Value → Value → Value → Value → World → Prop
  | 0 => fun _ _ _ _ _ => False
  | n + 1 => F40_2B (F40_2 K0 n) K0
def F40_2O (Q : Post) (t : Tm) (w : World) : Prop := ∃ n, F40_2 (fun y1 y7 w => ∀ g, rsh [(1, (.one (.int .i64))), (7, (.one (.int .i64)))] (upds g [(1, y1), (7, y7)]) fun t => Q (.exit 0) t w) n (t 0) (t 1) (t 2) (t 7) w
theorem F40_2_step (K0 : Value → Value → World → Prop) (n : Nat) (t : Tm) (w : World) : (F40_2 K0 (n + 1) (t 0) (t 1) (t 2) (t 7) w) = rsh [(1, (.one (.int .i64))), (2, (.one (.int .i64))), (7, (.one (.int .i64)))] t (fun t => vc Try.prog (orcOf [([1, 1, 0, 0, 0, 0, 1, 1], F40_1O)]) [0, 0, 0, 1, 1] (getAt F40_code [0, 0, 0, 1, 1]) (fun o t w => match o with | .normal => F40_2 K0 n (t 0) (t 1) (t 2) (t 7) w | .exit i => F40_2C K0 (.exit i) t w | .ret => F40_2C K0 .ret t w) t w) := by kernel_rfl
theorem F40_2_ok : ∀ Q t w, F40_2O Q t w → W Try.prog Try.f40.ntmps (getAt F40_code [0, 0, 1, 1]) Q t w := by
  intro Q t w ⟨n, h⟩
  refine (W_loop (P := Try.prog) (b := getAt F40_code [0, 0, 0, 1, 1]) (Q := F40_2C (fun y1 y7 w => ∀ g, rsh [(1, (.one (.int .i64))), (7, (.one (.int .i64)))] (upds g [(1, y1), (7, y7)]) fun t => Q (.exit 0) t w)) (G := fun n t w => F40_2 (fun y1 y7 w => ∀ g, rsh [(1, (.one (.int .i64))), (7, (.one (.int .i64)))] (upds g [(1, y1), (7, y7)]) fun t => Q (.exit 0) t w) n (t 0) (t 1) (t 2) (t 7) w) (fun _ _ h => h) (fun n t w h => ?_) n t w h).mono ?_
  · rw [F40_2_step] at h
    exact vc_sound mixed (orcCons (π := [1, 1, 0, 0, 0, 0, 1, 1]) F40_1_ok (orcNil F40_code)) _ _ rfl (okC_at F40_code_ok [0, 0, 0, 1, 1]) _ _ _ (rsh_out h)
  · intro o t w q
    cases o with
    | normal => exact q.elim
    | exit i =>
      unfold F40_2C at q
      simp only at q
      split at q
      · rename_i hi
        rw [nbeq] at hi
        subst hi
        exact out_ok [1, 7] q
      · exact q.elim
    | ret => exact q.elim
def F40 (x0 : Value) (x1 : Value) (x2 : Value) (w : World) (K : Value → World → Prop) : Prop :=
  rdI .i64 x1 fun n1 => rdI .i64 x2 fun n2 => ∃ k8 : Nat, F40_2 (fun y1_2 y7_2 w4 => ∀ _g5 : Tm, rdI .i64 y1_2 fun n6 => rdI .i64 y7_2 fun n7 => K (.bool (decide ((n7 : Int) > n6))) w4) k8 x0 (.int .i64 n1) (.int .i64 n2) (.int .i64 n1) w
theorem F40_step (x0 : Value) (x1 : Value) (x2 : Value) (w : World) (K : Value → World → Prop) : (F40 x0 x1 x2 w K) = rsh [(1, (.one (.int .i64))), (2, (.one (.int .i64)))] (args0 #[x0, x1, x2]) (fun t => vc Try.prog (orcOf [([1, 1, 0, 0, 0, 0, 1, 1], F40_1O), ([0, 0, 1, 1], F40_2O)]) [] F40_code (retQ Try.prog Try.f40 K) t w) := by kernel_rfl
theorem F40_ok {x0 x1 x2 : Value} {w : World} {K : Value → World → Prop} (h : F40 x0 x1 x2 w K) : Calls Try.prog 40 #[x0, x1, x2] w fun e w' => ∃ v, e = .returned v ∧ K v w' := by
  rw [F40_step] at h
  exact calls_of (c := F40_code) mixed Try.func40 rfl (nlt rfl) (vc_sound mixed (orcCons (π := [1, 1, 0, 0, 0, 0, 1, 1]) F40_1_ok (orcCons (π := [0, 0, 1, 1]) F40_2_ok (orcNil F40_code))) F40_code [] rfl F40_code_ok _ _ _ (rsh_out h))

/-! slices.SortFunc[[]ropewalk/api.Due,ropewalk/api.Due] -/
noncomputable def F41_code : Code := Try.f41.body.getD .skip
theorem F41_code_ok : okC Try.prog Try.f41.ntmps F41_code = true := by kernel_rfl
def F41 (x0 : Value) (x1 : Value) (w : World) (K : Value → World → Prop) : Prop :=
  rdC x0 fun l1a l1n l1c => Calls Try.prog 44 #[(.int .u64 (IntKind.wrap .u64 ((l1n : Int))))] w fun e3 w2 => ∃ n4, e3 = .returned (.int .i64 n4) ∧ (Calls Try.prog 43 #[(.slice l1a l1n l1c), (.int .i64 0), (.int .i64 (l1n : Int)), (.int .i64 n4), x1] w2 fun e6 w5 => e6 = .returned (.tuple #[]) ∧ (K (.tuple #[]) w5))
theorem F41_step (x0 : Value) (x1 : Value) (w : World) (K : Value → World → Prop) : (F41 x0 x1 w K) = rsh [(0, (.one .slc))] (args0 #[x0, x1]) (fun t => vc Try.prog (orcOf []) [] F41_code (retQ Try.prog Try.f41 K) t w) := by kernel_rfl
theorem F41_ok {x0 x1 : Value} {w : World} {K : Value → World → Prop} (h : F41 x0 x1 w K) : Calls Try.prog 41 #[x0, x1] w fun e w' => ∃ v, e = .returned v ∧ K v w' := by
  rw [F41_step] at h
  exact calls_of (c := F41_code) mixed Try.func41 rfl (nlt rfl) (vc_sound mixed (orcNil F41_code) F41_code [] rfl F41_code_ok _ _ _ (rsh_out h))

/-! cmp.isNaN[int] -/
noncomputable def F42_code : Code := Try.f42.body.getD .skip
theorem F42_code_ok : okC Try.prog Try.f42.ntmps F42_code = true := by kernel_rfl
def F42 (x0 : Value) (w : World) (K : Value → World → Prop) : Prop :=
  rdI .i64 x0 fun n1 => K (.bool (n1 != n1)) w
theorem F42_step (x0 : Value) (w : World) (K : Value → World → Prop) : (F42 x0 w K) = rsh [(0, (.one (.int .i64)))] (args0 #[x0]) (fun t => vc Try.prog (orcOf []) [] F42_code (retQ Try.prog Try.f42 K) t w) := by kernel_rfl
theorem F42_ok {x0 : Value} {w : World} {K : Value → World → Prop} (h : F42 x0 w K) : Calls Try.prog 42 #[x0] w fun e w' => ∃ v, e = .returned v ∧ K v w' := by
  rw [F42_step] at h
  exact calls_of (c := F42_code) mixed Try.func42 rfl (nlt rfl) (vc_sound mixed (orcNil F42_code) F42_code [] rfl F42_code_ok _ _ _ (rsh_out h))

/-! (*ropewalk/timers.waiting[ropewalk/api.Due]).Less -/
noncomputable def F77_code : Code := Try.f77.body.getD .skip
theorem F77_code_ok : okC Try.prog Try.f77.ntmps F77_code = true := by kernel_rfl
def F77 (x0 : Value) (x1 : Value) (x2 : Value) (w : World) (K : Value → World → Prop) : Prop :=
  rdP x0 fun p1 => rdI .i64 x1 fun n2 => rdI .i64 x2 fun n3 => drw w fun w4 => nn p1 fun a5 => ldV (a5.add 1) w4 fun v6 => nn p1 fun a7 => ldC (a7.add 0) w4 fun l8a l8n _ => ixS 2 l8a l8n n2 fun a9 => ldI .i64 (a9.add 0) w4 fun n10 => ldI .i64 (a9.add 1) w4 fun n11 => nn p1 fun a12 => ldC (a12.add 0) w4 fun l13a l13n _ => ixS 2 l13a l13n n3 fun a14 => ldI .i64 (a14.add 0) w4 fun n15 => ldI .i64 (a14.add 1) w4 fun n16 => callV Try.prog v6 #[(.agg #[(.int .i64 n10), (.int .i64 n11)]), (.agg #[(.int .i64 n15), (.int .i64 n16)])] w4 (.one (.one .bool)) fun r18 w17 => ∃ b19, r18 = (.bool b19) ∧ (K (.bool b19) w17)
theorem F77_step (x0 : Value) (x1 : Value) (x2 : Value) (w : World) (K : Value → World → Prop) : (F77 x0 x1 x2 w K) = rsh [(0, (.one .ptr)), (1, (.one (.int .i64))), (2, (.one (.int .i64)))] (args0 #[x0, x1, x2]) (fun t => vc Try.prog (orcOf []) [] F77_code (retQ Try.prog Try.f77 K) t w) := by kernel_rfl
theorem F77_ok {x0 x1 x2 : Value} {w : World} {K : Value → World → Prop} (h : F77 x0 x1 x2 w K) : Calls Try.prog 77 #[x0, x1, x2] w fun e w' => ∃ v, e = .returned v ∧ K v w' := by
  rw [F77_step] at h
  exact calls_of (c := F77_code) mixed Try.func77 rfl (nlt rfl) (vc_sound mixed (orcNil F77_code) F77_code [] rfl F77_code_ok _ _ _ (rsh_out h))

/-! (*ropewalk/timers.waiting[ropewalk/api.Due]).Pop -/
noncomputable def F78_code : Code := Try.f78.body.getD .skip
theorem F78_code_ok : okC Try.prog Try.f78.ntmps F78_code = true := by kernel_rfl
def F78 (x0 : Value) (w : World) (K : Value → World → Prop) : Prop :=
  rdP x0 fun p1 => drw w fun w2 => nn p1 fun a3 => ldC (a3.add 0) w2 fun l4a l4n _ => nn p1 fun a5 => ldC (a5.add 0) w2 fun _ l6n _ => ixS 2 l4a l4n (IntKind.wrap .i64 ((l6n : Int) - 1)) fun a7 => ldI .i64 (a7.add 0) w2 fun n8 => ldI .i64 (a7.add 1) w2 fun n9 => alc (.cells #[(.int .i64 0), (.int .i64 0)] 30) w2 fun b10 w11 => Pres w2 w11 ∧ (stc ((Addr.mk b10 0 none).add 0) (.int .i64 n8) w11 fun w12 => stc ((Addr.mk b10 0 none).add 1) (.int .i64 n9) w12 fun w13 => drw w13 fun w14 => nn p1 fun a15 => ldC (a15.add 0) w14 fun l16a l16n l16c => nn p1 fun a17 => ldC (a17.add 0) w14 fun _ l18n _ => slS 2 l16a l16n l16c none (some (.int .i64 (IntKind.wrap .i64 ((l18n : Int) - 1)))) fun l19a l19n l19c => nn p1 fun a20 => stc (a20.add 0) (.slice l19a l19n l19c) w14 fun w21 => ldI .i64 ((Addr.mk b10 0 none).add 0) w21 fun n22 => ldI .i64 ((Addr.mk b10 0 none).add 1) w21 fun n23 => K (.iface 30 (.agg #[(.int .i64 n22), (.int .i64 n23)])) w21)
theorem F78_step (x0 : Value) (w : World) (K : Value → World → Prop) : (F78 x0 w K) = rsh [(0, (.one .ptr))] (args0 #[x0]) (fun t => vc Try.prog (orcOf []) [] F78_code (retQ Try.prog Try.f78 K) t w) := by kernel_rfl
theorem F78_ok {x0 : Value} {w : World} {K : Value → World → Prop} (h : F78 x0 w K) : Calls Try.prog 78 #[x0] w fun e w' => ∃ v, e = .returned v ∧ K v w' := by
  rw [F78_step] at h
  exact calls_of (c := F78_code) mixed Try.func78 rfl (nlt rfl) (vc_sound mixed (orcNil F78_code) F78_code [] rfl F78_code_ok _ _ _ (rsh_out h))

/-! (*ropewalk/timers.waiting[ropewalk/api.Due]).Push -/
noncomputable def F79_code : Code := Try.f79.body.getD .skip
theorem F79_code_ok : okC Try.prog Try.f79.ntmps F79_code = true := by kernel_rfl
def F79 (x0 : Value) (x1 : Value) (w : World) (K : Value → World → Prop) : Prop :=
  rdP x0 fun p1 => drw w fun w2 => nn p1 fun a3 => ldC (a3.add 0) w2 fun l4a l4n l4c => ∃ n5 n6, ∃ w7, Sem.run Try.prog (Instr.typeAssert x1 20 30 false) w2 = .ok (.agg #[(.int .i64 n5), (.int .i64 n6)]) w7 ∧ (Pres w2 w7 ∧ (alc (.cells #[(.int .i64 n5), (.int .i64 n6)] 30) w7 fun b8 w9 => Pres w2 w9 ∧ (∃ l10a l10n l10c w11, Sem.run Try.prog (Builtin.append_ #[22, 22] 22 #[(.slice l4a l4n l4c), (.slice (some (Addr.mk b8 0 none)) 1 1)]) w9 = .ok (.slice l10a l10n l10c) w11 ∧ (nn p1 fun a12 => stc (a12.add 0) (.slice l10a l10n l10c) w11 fun w13 => K (.tuple #[]) w13))))
theorem F79_step (x0 : Value) (x1 : Value) (w : World) (K : Value → World → Prop) : (F79 x0 x1 w K) = rsh [(0, (.one .ptr))] (args0 #[x0, x1]) (fun t => vc Try.prog (orcOf []) [] F79_code (retQ Try.prog Try.f79 K) t w) := by kernel_rfl
theorem F79_ok {x0 x1 : Value} {w : World} {K : Value → World → Prop} (h : F79 x0 x1 w K) : Calls Try.prog 79 #[x0, x1] w fun e w' => ∃ v, e = .returned v ∧ K v w' := by
  rw [F79_step] at h
  exact calls_of (c := F79_code) mixed Try.func79 rfl (nlt rfl) (vc_sound mixed (orcNil F79_code) F79_code [] rfl F79_code_ok _ _ _ (rsh_out h))

/-! (*ropewalk/timers.waiting[ropewalk/api.Due]).Swap -/
noncomputable def F80_code : Code := Try.f80.body.getD .skip
theorem F80_code_ok : okC Try.prog Try.f80.ntmps F80_code = true := by kernel_rfl
def F80 (x0 : Value) (x1 : Value) (x2 : Value) (w : World) (K : Value → World → Prop) : Prop :=
  rdP x0 fun p1 => rdI .i64 x1 fun n2 => rdI .i64 x2 fun n3 => drw w fun w4 => nn p1 fun a5 => ldC (a5.add 0) w4 fun l6a l6n _ => nn p1 fun a7 => ldC (a7.add 0) w4 fun l8a l8n _ => nn p1 fun a9 => ldC (a9.add 0) w4 fun l10a l10n _ => ixS 2 l10a l10n n3 fun a11 => ldI .i64 (a11.add 0) w4 fun n12 => ldI .i64 (a11.add 1) w4 fun n13 => nn p1 fun a14 => ldC (a14.add 0) w4 fun l15a l15n _ => ixS 2 l15a l15n n2 fun a16 => ldI .i64 (a16.add 0) w4 fun n17 => ldI .i64 (a16.add 1) w4 fun n18 => ixS 2 l6a l6n n2 fun a19 => stc (a19.add 0) (.int .i64 n12) w4 fun w20 => stc (a19.add 1) (.int .i64 n13) w20 fun w21 => ixS 2 l8a l8n n3 fun a22 => stc (a22.add 0) (.int .i64 n17) w21 fun w23 => stc (a22.add 1) (.int .i64 n18) w23 fun w24 => K (.tuple #[]) w24
theorem F80_step (x0 : Value) (x1 : Value) (x2 : Value) (w : World) (K : Value → World → Prop) : (F80 x0 x1 x2 w K) = rsh [(0, (.one .ptr)), (1, (.one (.int .i64))), (2, (.one (.int .i64)))] (args0 #[x0, x1, x2]) (fun t => vc Try.prog (orcOf []) [] F80_code (retQ Try.prog Try.f80 K) t w) := by kernel_rfl
theorem F80_ok {x0 x1 x2 : Value} {w : World} {K : Value → World → Prop} (h : F80 x0 x1 x2 w K) : Calls Try.prog 80 #[x0, x1, x2] w fun e w' => ∃ v, e = .returned v ∧ K v w' := by
  rw [F80_step] at h
  exact calls_of (c := F80_code) mixed Try.func80 rfl (nlt rfl) (vc_sound mixed (orcNil F80_code) F80_code [] rfl F80_code_ok _ _ _ (rsh_out h))
end Go.Proofs.Ytdagfdejjfobhaa
