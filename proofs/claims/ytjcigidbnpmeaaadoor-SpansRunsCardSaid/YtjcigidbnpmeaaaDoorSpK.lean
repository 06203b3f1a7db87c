/- Own text: part of the shallow reading of the code and of the contracts that are proved over it. -/
import Derived.Test.YtjcigidbnpmeaaaDoorSpJ
import Derived.Test.YtjcigidbnpmeaaaDoorShL
namespace Go.Proofs.YtjcigidbnpmeaaaDoor
open Go Go.Sh Go.Sp
theorem two74 : two Tryd.prog 74 = true := by kernel_rfl

/-! Numbers, Blocks -/
theorem Rd.same {w w' : World} {a : Option Addr} {xs : List Value} (h : Rd w a xs) (hf : Same w w') : Rd w' a xs := h.fr hf fun _ _ x => x
theorem take_succ_eq {α : Type} {X Y : List α} {n : Nat} {x y : α} (hX : X[n]? = some x) (hY : Y[n]? = some y) (h : X.take n = Y.take n) (e : x = y) : X.take (n + 1) = Y.take (n + 1) := by
  rw [List.take_add_one, List.take_add_one, h, hX, hY, e]
theorem c11_loop {X Y : List Int} {a1 a2 : Option Addr} {d1 d2 : Nat} (hXY : X.length = Y.length) {K0 : World → Prop} {Kr : Value → World → Prop} : ∀ (i n : Nat) (w : World) (k : Nat), n + i = X.length → X.take n = Y.take n →
    Rd w a1 (X.map (Value.int .u32)) → Rd w a2 (Y.map (Value.int .u32)) → X.length < 4611686018427387904 → i < k → (X = Y → ∀ w', Same w w' → K0 w') → (X ≠ Y → ∀ w', Same w w' → Kr (.bool false) w') →
    F11_1 K0 Kr k (.slice a1 X.length d1) (.slice a2 Y.length d2) (.int .i64 (n : Int)) w := by
  intro i
  induction i with
  | zero =>
    intro n w k hn ht h1 h2 hl hk k0 kr
    obtain ⟨k, rfl⟩ : ∃ j, k = j + 1 := ⟨k - 1, by omega⟩
    show F11_1B _ _ _ _ _ _ _
    unfold F11_1B
    simp only [rdC_mk, rdI_mk, br_dec]
    refine ⟨fun h => by exfalso; omega, fun _ => k0 ?_ w (Fr.refl w)⟩
    rwa [List.take_of_length_le (by omega), List.take_of_length_le (by omega)] at ht
  | succ i ih =>
    intro n w k hn ht h1 h2 hl hk k0 kr
    obtain ⟨k, rfl⟩ : ∃ j, k = j + 1 := ⟨k - 1, by omega⟩
    show F11_1B _ _ _ _ _ _ _
    unfold F11_1B drw
    simp only [rdC_mk, rdI_mk, br_dec]
    refine ⟨fun _ => ?_, fun h => by exfalso; omega⟩
    have f0 : Same w w.drew := (Fr.refl w).drew
    obtain ⟨x, hx⟩ : ∃ x, X[n]? = some x := ⟨X[n]'(by omega), by simp⟩
    obtain ⟨y, hy⟩ : ∃ y, Y[n]? = some y := ⟨Y[n]'(by omega), by simp⟩
    have g1 : (X.map (Value.int .u32))[n]? = some (.int .u32 x) := by simp [hx]
    have g2 : (Y.map (Value.int .u32))[n]? = some (.int .u32 y) := by simp [hy]
    have i1 := Rd.same h1 f0
    have i2 := Rd.same h2 f0
    obtain ⟨b1, rfl⟩ := i1.some (by simp; omega)
    obtain ⟨b2, rfl⟩ := i2.some (by simp; omega)
    refine ixS_of (by omega) (by omega) ?_
    simp only [Int.toNat_natCast, Nat.mul_one]
    refine ldI_c (i1.at g1) (ixS_of (by omega) (by omega) ?_)
    simp only [Int.toNat_natCast, Nat.mul_one]
    refine ldI_c (i2.at g2) ?_
    by_cases hxy : x = y
    · have : (x != y) = false := by simp [hxy]
      rw [this, br_false]
      have e1 : IntKind.wrap .i64 ((n : Int) + 1) = ((n + 1 : Nat) : Int) := by rw [wrap_i64 (by omega) (by omega)]; omega
      rw [e1]
      exact ih (n + 1) w.drew k (by omega) (take_succ_eq hx hy ht hxy) i1 i2 hl (by omega) (fun h w' hf => k0 h w' (f0.trans hf fun _ _ x => x)) (fun h w' hf => kr h w' (f0.trans hf fun _ _ x => x))
    · have : (x != y) = true := by simp [hxy]
      rw [this, br_true]
      refine kr (fun e => hxy ?_) _ f0
      rw [e, hy] at hx
      cases hx; rfl
theorem c11 {w : World} {X Y : List Int} {a1 a2 : Option Addr} {d1 d2 : Nat} (h1 : Rd w a1 (X.map (Value.int .u32))) (h2 : Rd w a2 (Y.map (Value.int .u32))) (hl : X.length < 4611686018427387904) :
    Calls Tryd.prog 11 #[.slice a1 X.length d1, .slice a2 Y.length d2] w (rt fun v w' => v = .bool (decide (X = Y)) ∧ Same w w') := by
  refine F11_ok ?_
  unfold F11
  simp only [rdC_mk]
  by_cases hXY : X.length = Y.length
  · have : ((X.length : Int) != (Y.length : Int)) = false := by simp [hXY]
    rw [this, br_false]
    refine ⟨X.length + 1, c11_loop hXY X.length 0 w _ (by omega) rfl h1 h2 hl (by omega) (fun h w' hf _g => ⟨by simp [h], hf⟩) fun h w' hf _g => ?_⟩
    simp only [rdB_mk]
    exact ⟨by simp [h], hf⟩
  · have : ((X.length : Int) != (Y.length : Int)) = true := by simp; omega
    rw [this, br_true]
    exact ⟨by simp only [Value.bool.injEq]; rw [decide_eq_false]; intro e; rw [e] at hXY; exact hXY rfl, Fr.refl w⟩
theorem gapV_at {X : List (Nat × Nat)} {n : Nat} {x : Nat × Nat} (h : X[n]? = some x) : (gapV X)[n * 2]? = some (.int .u16 (x.1 : Int)) ∧ (gapV X)[n * 2 + 1]? = some (.int .u16 (x.2 : Int)) := by
  induction X generalizing n with
  | nil => simp at h
  | cons p X ih =>
    have h2 : gapV (p :: X) = Value.int .u16 (p.1 : Int) :: Value.int .u16 (p.2 : Int) :: gapV X := rfl
    rw [h2]
    cases n with
    | zero => simp at h; subst h; exact ⟨rfl, rfl⟩
    | succ n =>
      have := ih (n := n) (by simpa using h)
      rw [show (n + 1) * 2 = n * 2 + 1 + 1 by omega]
      exact this
theorem c31_loop {X Y : List (Nat × Nat)} {a1 a2 : Option Addr} {d1 d2 : Nat} (hXY : X.length = Y.length) {K0 : World → Prop} {Kr : Value → World → Prop} : ∀ (i n : Nat) (w : World) (k : Nat), n + i = X.length → X.take n = Y.take n →
    Rd w a1 (gapV X) → Rd w a2 (gapV Y) → X.length < 2305843009213693952 → i < k → (X = Y → ∀ w', Same w w' → K0 w') → (X ≠ Y → ∀ w', Same w w' → Kr (.bool false) w') →
    F31_1 K0 Kr k (.slice a1 X.length d1) (.slice a2 Y.length d2) (.int .i64 (n : Int)) w := by
  intro i
  induction i with
  | zero =>
    intro n w k hn ht h1 h2 hl hk k0 kr
    obtain ⟨k, rfl⟩ : ∃ j, k = j + 1 := ⟨k - 1, by omega⟩
    show F31_1B _ _ _ _ _ _ _
    unfold F31_1B
    simp only [rdC_mk, rdI_mk, br_dec]
    refine ⟨fun h => by exfalso; omega, fun _ => k0 ?_ w (Fr.refl w)⟩
    rwa [List.take_of_length_le (by omega), List.take_of_length_le (by omega)] at ht
  | succ i ih =>
    intro n w k hn ht h1 h2 hl hk k0 kr
    obtain ⟨k, rfl⟩ : ∃ j, k = j + 1 := ⟨k - 1, by omega⟩
    show F31_1B _ _ _ _ _ _ _
    unfold F31_1B drw
    simp only [rdC_mk, rdI_mk, br_dec]
    refine ⟨fun _ => ?_, fun h => by exfalso; omega⟩
    have f0 : Same w w.drew := (Fr.refl w).drew
    obtain ⟨x, hx⟩ : ∃ x, X[n]? = some x := ⟨X[n]'(by omega), by simp⟩
    obtain ⟨y, hy⟩ : ∃ y, Y[n]? = some y := ⟨Y[n]'(by omega), by simp⟩
    obtain ⟨g1, g1'⟩ := gapV_at hx
    obtain ⟨g2, g2'⟩ := gapV_at hy
    have i1 := Rd.same h1 f0
    have i2 := Rd.same h2 f0
    obtain ⟨b1, rfl⟩ := i1.some (by rw [gapV_length]; omega)
    obtain ⟨b2, rfl⟩ := i2.some (by rw [gapV_length]; omega)
    refine ixS_of (by omega) (by omega) ?_
    simp only [Int.toNat_natCast, add_add, Nat.add_zero]
    refine ldI_c (i1.at g1) (ldI_c (i1.at g1') (ixS_of (by omega) (by omega) ?_))
    simp only [Int.toNat_natCast, add_add, Nat.add_zero]
    refine ldI_c (i2.at g2) (ldI_c (i2.at g2') ⟨_, _, neq_two two74, ?_⟩)
    by_cases hxy : x = y
    · have : (!decide ((x.1 : Int) = y.1 ∧ (x.2 : Int) = y.2)) = false := by simp [hxy]
      rw [this, br_false]
      have e1 : IntKind.wrap .i64 ((n : Int) + 1) = ((n + 1 : Nat) : Int) := by rw [wrap_i64 (by omega) (by omega)]; omega
      rw [e1]
      exact ih (n + 1) w.drew k (by omega) (take_succ_eq hx hy ht hxy) i1 i2 hl (by omega) (fun h w' hf => k0 h w' (f0.trans hf fun _ _ x => x)) (fun h w' hf => kr h w' (f0.trans hf fun _ _ x => x))
    · have : (!decide ((x.1 : Int) = y.1 ∧ (x.2 : Int) = y.2)) = true := by
        simp only [Bool.not_eq_true', decide_eq_false_iff_not]
        intro ⟨e1, e2⟩
        exact hxy (Prod.ext (by omega) (by omega))
      rw [this, br_true]
      refine kr (fun e => hxy ?_) _ f0
      rw [e, hy] at hx
      cases hx; rfl
theorem c31 {w : World} {X Y : List (Nat × Nat)} {a1 a2 : Option Addr} {d1 d2 : Nat} (h1 : Rd w a1 (gapV X)) (h2 : Rd w a2 (gapV Y)) (hl : X.length < 2305843009213693952) :
    Calls Tryd.prog 31 #[.slice a1 X.length d1, .slice a2 Y.length d2] w (rt fun v w' => v = .bool (decide (X = Y)) ∧ Same w w') := by
  refine F31_ok ?_
  unfold F31
  simp only [rdC_mk]
  by_cases hXY : X.length = Y.length
  · have : ((X.length : Int) != (Y.length : Int)) = false := by simp [hXY]
    rw [this, br_false]
    refine ⟨X.length + 1, c31_loop hXY X.length 0 w _ (by omega) rfl h1 h2 hl (by omega) (fun h w' hf _g => ⟨by simp [h], hf⟩) fun h w' hf _g => ?_⟩
    simp only [rdB_mk]
    exact ⟨by simp [h], hf⟩
  · have : ((X.length : Int) != (Y.length : Int)) = true := by simp; omega
    rw [this, br_true]
    exact ⟨by simp only [Value.bool.injEq]; rw [decide_eq_false]; intro e; rw [e] at hXY; exact hXY rfl, Fr.refl w⟩

/-! alive -/
theorem SetR.bm {w w0 : World} {b m m' : Nat} (hb : w0.heap.size ≤ b) (hm : w0.heap.size ≤ m) (hm' : m' = m ∨ w.heap.size ≤ m') (hs : w0.heap.size ≤ w.heap.size) : w0.heap.size ≤ m' := by rcases hm' with rfl | h <;> omega
theorem same_bm {w0 w w' : World} {b m : Nat} (h : Same w0 w) (hf : Fr (Bm b m) w w') (hb : w0.heap.size ≤ b) (hm : w0.heap.size ≤ m) : Same w0 w' :=
  ((h.mono (S' := fun k => w0.heap.size ≤ k) fun _ _ x => x.elim).trans hf fun i _ x => by rcases x with rfl | rfl <;> assumption).mono fun i hi x => by omega
theorem c13 {w : World} (ht : TB w) : Calls Tryd.prog 13 #[] w (rt fun v w' => v = .bool true ∧ Same w w') := by
  refine F13_ok ?_
  unfold F13
  refine cl (c23 (by decide) (by decide) w) ?_
  rintro _ w1 ⟨b, m, rfl, s1, hb, hm, f1⟩
  refine ⟨_, rfl, ?_⟩
  simp only [Option.isNone_some, br_false]
  refine cl (c26 (ht.fr f1 fun x => x) s1 12) ?_
  rintro _ w2 ⟨rfl, m2, hm2, s2, f2⟩
  have g2 := same_bm f1 f2 hb hm
  have hm2' := SetR.bm hb hm hm2 f1.size
  have d1 : addR 10 [] 12 = (true, 0) := by decide
  have d2 : addC 10 [] 12 = 10 := by decide
  have d3 : addS 10 [] 12 = [2] := by decide
  rw [d2, d3] at s2
  rw [d1]
  refine ⟨_, _, rfl, ?_⟩
  refine cl (c26 (ht.fr g2 fun x => x) s2 13) ?_
  rintro _ w3 ⟨rfl, m3, hm3, s3, f3⟩
  have g3 := same_bm g2 f3 hb hm2'
  have hm3' := SetR.bm hb hm2' hm3 g2.size
  have d4 : addR 10 [2] 13 = (true, 0) := by decide
  have d5 : addC 10 [2] 13 = 10 := by decide
  have d6 : addS 10 [2] 13 = [2, 3] := by decide
  rw [d5, d6] at s3
  rw [d4]
  refine ⟨_, _, rfl, ?_⟩
  refine cl (c15 (ht.fr g3 fun x => x) s3 5) ?_
  rintro _ w4 ⟨a, c, rfl, o4, f4⟩
  have d7 : gapS [2, 3] 5 = [(2, 3)] := by decide
  rw [d7] at o4
  simp only [d7]
  refine ⟨_, _, _, rfl, ?_⟩
  have g4 : Same w w4 := g3.trans f4 fun _ _ x => x
  have s4 := s3.same f4
  obtain ⟨ad, rfl⟩ := o4.rd.some (by decide)
  simp only [br_true]
  have e0 : (((List.length [((2 : Nat), (3 : Nat))] : Nat) : Int) == 1) = true := rfl
  have e1 : ((0 : Int) == 0) = true := rfl
  rw [e0]
  simp only [e1, br_true]
  refine ixS_of (Int.le_refl _) (by decide) ?_
  simp only [add_add]
  refine ldI_c (o4.rd.at (j := 0) rfl) (ldI_c (o4.rd.at (j := 1) rfl) ⟨true, w4, by kernel_rfl, ?_⟩)
  simp only [br_true]
  refine clr (c10 s4) ⟨_, rfl, ?_⟩
  exact ⟨rfl, g4⟩
end Go.Proofs.YtjcigidbnpmeaaaDoor
