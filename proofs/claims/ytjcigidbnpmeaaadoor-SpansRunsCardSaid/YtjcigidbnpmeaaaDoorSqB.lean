/- Own text: part of the shallow reading of the code and of the contracts that are proved over it. -/
import Derived.Test.YtjcigidbnpmeaaaDoorSqA
namespace Go.Proofs.YtjcigidbnpmeaaaDoor
open Go Go.Sh Go.Sp

theorem missA_append (r s : List Nat) : missA (r ++ s) = s.foldl mstep (missA r) := by simp [missA]
theorem mstep_keep (s : List Nat) : ∀ acc : List Nat × Nat, ∃ t, (s.foldl mstep acc).1 = acc.1 ++ t := by
  induction s with
  | nil => intro acc; exact ⟨[], by simp⟩
  | cons d s ih =>
    intro acc
    obtain ⟨t, h⟩ := ih (mstep acc d)
    exact ⟨List.range' acc.2 (d - acc.2) ++ t, by rw [List.foldl_cons, h]; simp [mstep]⟩
section
variable {b : Nat} {a : Option Addr} {cum N : Int} {S : List Nat}
theorem r33_in {w0 : World} (hR : RefR w0 b a cum S) {K2 : Value → Value → Value → Value → Value → World → Prop} {Kr : Value → World → Prop} {j x nx : Nat} {P : List Nat} (hx : S[j]? = some x) (hnx : nx ≤ x) (hP : P.length + 1 ≤ nx) (hpre : ∃ t, (missA S).1 = P ++ List.range' nx (x - nx) ++ t) : ∀ (i m : Nat) (w : World) (k : Nat) (la : Option Addr) (l c : Nat), m + i = x → nx ≤ m → Same w0 w → Own w w0.heap.size 22 1 la l c (numV cum (P ++ List.range' nx (m - nx))) →
    (((P ++ List.range' nx (m - nx)).length : Int) ≤ N ∨ P ++ List.range' nx (m - nx) = []) → i < k →
    (∀ w' la l c, Same w0 w' → Own w' w0.heap.size 22 1 la l c (numV cum (P ++ List.range' nx (x - nx))) → (((P ++ List.range' nx (x - nx)).length : Int) ≤ N ∨ P ++ List.range' nx (x - nx) = []) → K2 (.pointer (some ⟨b, 0, none⟩)) (.int .i64 N) (.slice la l c) (.int .i64 (x : Int)) (.int .i64 (j : Int)) w') →
    (∀ w' la c, Same w0 w' → Own w' w0.heap.size 22 1 la (missS S N).length c (numV cum (missS S N)) → Kr (.slice la (missS S N).length c) w') →
    F33_1 K2 Kr k (.pointer (some ⟨b, 0, none⟩)) (.int .i64 N) (.slice la l c) (.int .i64 (m : Int)) (.int .i64 (j : Int)) w := by
  have hlen := hR.len
  have hc0 := hR.c0
  have hc1 := hR.c1
  have hxr := hR.rng x (List.mem_of_getElem? hx)
  have hjl : j < S.length := (List.getElem?_eq_some_iff.1 hx).1
  intro i
  induction i with
  | zero =>
    intro m w k la l c hm hnm hf ho hN hk hK hKr
    obtain ⟨k, rfl⟩ : ∃ j, k = j + 1 := ⟨k - 1, by omega⟩
    obtain ⟨c0, k1, k2⟩ := (hR.same hf).blk
    have : m = x := by omega
    subst this
    show F33_1B _ _ _ _ _ _ _ _ _
    unfold F33_1B
    simp only [rdP_mk, rdI_mk, rdC_mk, nn_some, add_mk]
    refine ldC_at k1 rfl ?_
    obtain ⟨ad, ha⟩ := k2.rd.some (by rw [atV_length]; omega)
    rw [ha] at k2 ⊢
    refine ixS_of (by omega) (by omega) ?_
    simp only [Int.toNat_natCast, Nat.mul_one]
    refine ldI_c (k2.rd.at (atV_at hx)) ?_
    simp only [br_dec]
    exact ⟨fun h => by exfalso; omega, fun _ => hK w la l c hf ho hN⟩
  | succ i ih =>
    intro m w k la l c hm hnm hf ho hN hk hK hKr
    obtain ⟨k, rfl⟩ : ∃ j, k = j + 1 := ⟨k - 1, by omega⟩
    obtain ⟨c0, k1, k2⟩ := (hR.same hf).blk
    have hl : l = (P ++ List.range' nx (m - nx)).length := by have := ho.length; simp only [numV, List.length_map, Nat.mul_one] at this; omega
    have hl2 : (P ++ List.range' nx (m - nx)).length ≤ 65535 := by simp; omega
    show F33_1B _ _ _ _ _ _ _ _ _
    unfold F33_1B alc
    simp only [rdP_mk, rdI_mk, rdC_mk, nn_some, add_mk]
    refine ldC_at k1 rfl ?_
    obtain ⟨ad, ha⟩ := k2.rd.some (by rw [atV_length]; omega)
    rw [ha] at k2 ⊢
    refine ixS_of (by omega) (by omega) ?_
    simp only [Int.toNat_natCast, Nat.mul_one]
    refine ldI_c (k2.rd.at (atV_at hx)) ?_
    simp only [br_dec]
    refine ⟨fun _ => ⟨fun hfull => ?_, fun hroom => ?_⟩, fun h => by exfalso; omega⟩
    · have hms : missS S N = P ++ List.range' nx (m - nx) := by
        obtain ⟨t, ht⟩ := hpre
        have hr : List.range' nx (x - nx) = List.range' nx (m - nx) ++ List.range' m (x - m) := by
          have h := List.range'_append_1 (s := nx) (m := m - nx) (n := x - m)
          rw [show nx + (m - nx) = m by omega, show m - nx + (x - m) = x - nx by omega] at h
          exact h.symm
        have hpf : (missA S).1 = (P ++ List.range' nx (m - nx)) ++ (List.range' m (x - m) ++ t) := by rw [ht, hr]; simp
        unfold missS
        rw [hpf]
        rcases hN with hN | hN
        · rw [show N.toNat = (P ++ List.range' nx (m - nx)).length by omega, take_full (Nat.le_refl _), List.take_length]
        · rw [hN] at hl
          have : N.toNat = 0 := by simp at hl; omega
          rw [this, hN, List.take_zero]
      have := hKr w la c hf
      rw [hms] at this
      subst hl
      exact this ho
    · refine ldI_at k1 rfl ?_
      rw [wrap_u32 (n := (m : Int)) (by omega) (by omega)]
      refine clr (c25 _ _ _ hc0 hc1 (by omega) (by omega)) ⟨_, rfl, ?_⟩
      refine push E30 ho (news := #[_]) rfl (by simp [Value.oneCell']) (by omega) (by omega) hf.size ?_
      intro a2 c2 w2 p1 p2 p3
      have e1 : IntKind.wrap .i64 ((m : Int) + 1) = ((m + 1 : Nat) : Int) := by rw [wrap_i64 (by omega) (by omega)]; omega
      rw [e1]
      have hr : P ++ List.range' nx (m + 1 - nx) = (P ++ List.range' nx (m - nx)) ++ [m] := by
        rw [show m + 1 - nx = (m - nx) + 1 by omega, List.range'_concat, List.append_assoc]
        congr 3
        omega
      refine ih (m + 1) w2 k a2 (l + 1) c2 (by omega) (by omega) ?_ ?_ (.inl ?_) (by omega) hK hKr
      · exact ((hf.mono (S' := fun k => w0.heap.size ≤ k) fun _ _ x => x.elim).trans p2 fun i _ x => (ho.base_le x).1).mono fun i hi x => by omega
      · rw [hr, numV_snoc]; exact p1
      · rw [hr, List.length_append]; simp only [List.length_singleton]; omega
theorem r33_out {w0 : World} (hR : RefR w0 b a cum S) {K0 : Value → World → Prop} {Kr : Value → World → Prop} : ∀ (i j : Nat) (w : World) (k : Nat) (la : Option Addr) (l c : Nat), j + i = S.length → Same w0 w → Own w w0.heap.size 22 1 la l c (numV cum (missA (S.take j)).1) → (((missA (S.take j)).1.length : Int) ≤ N ∨ (missA (S.take j)).1 = []) → i < k →
    (∀ w' la c, Same w0 w' → Own w' w0.heap.size 22 1 la (missS S N).length c (numV cum (missS S N)) → K0 (.slice la (missS S N).length c) w') →
    (∀ w' la c, Same w0 w' → Own w' w0.heap.size 22 1 la (missS S N).length c (numV cum (missS S N)) → Kr (.slice la (missS S N).length c) w') →
    F33_2 K0 Kr k (.pointer (some ⟨b, 0, none⟩)) (.int .i64 N) (.slice la l c) (.int .i64 ((missA (S.take j)).2 : Int)) (.int .i64 (j : Int)) w := by
  have hlen := hR.len
  intro i
  induction i with
  | zero =>
    intro j w k la l c hj hf ho hN hk hK hKr
    obtain ⟨k, rfl⟩ : ∃ j, k = j + 1 := ⟨k - 1, by omega⟩
    obtain ⟨c0, k1, k2⟩ := (hR.same hf).blk
    show F33_2B _ _ _ _ _ _ _ _ _
    unfold F33_2B
    simp only [rdP_mk, rdI_mk, rdC_mk, nn_some, add_mk]
    refine ldC_at k1 rfl ?_
    simp only [br_dec]
    rw [List.take_of_length_le (by omega)] at ho hN
    refine ⟨fun h => by exfalso; omega, fun _ => ?_⟩
    have hms : missS S N = (missA S).1 := by
      unfold missS
      rcases hN with hN | hN
      · exact List.take_of_length_le (by omega)
      · rw [hN]; simp
    have hl : l = (missS S N).length := by have := ho.length; simp only [numV, List.length_map, Nat.mul_one] at this; rw [hms]; omega
    subst hl
    rw [← hms] at ho
    exact hK w la c hf ho
  | succ i ih =>
    intro j w k la l c hj hf ho hN hk hK hKr
    obtain ⟨k, rfl⟩ : ∃ j, k = j + 1 := ⟨k - 1, by omega⟩
    obtain ⟨c0, k1, k2⟩ := (hR.same hf).blk
    obtain ⟨x, hx⟩ : ∃ x, S[j]? = some x := ⟨S[j]'(by omega), by simp⟩
    have hxr := hR.rng x (List.mem_of_getElem? hx)
    have htake : S.take (j + 1) = S.take j ++ [x] := by rw [List.take_add_one, hx]; rfl
    have hsplit : S = S.take j ++ x :: S.drop (j + 1) := by
      have h1 := List.take_append_drop j S
      have h2 : S.drop j = x :: S.drop (j + 1) := by
        have := List.getElem?_eq_getElem (l := S) (i := j) (by omega)
        rw [hx, Option.some.injEq] at this
        rw [List.drop_eq_getElem_cons (by omega), ← this]
      rw [← h2]; exact h1.symm
    have hpw : (S.take j ++ x :: S.drop (j + 1)).Pairwise (· < ·) := by rw [← hsplit]; exact hR.rising
    obtain ⟨b1, b2, b3⟩ := missA_bound (S.take j) (List.pairwise_append.1 hpw).1 fun e he => by have := hR.rng e (List.mem_of_mem_take he); omega
    have hnx : (missA (S.take j)).2 ≤ x := by
      rw [missA_next]
      rcases List.eq_nil_or_concat (S.take j) with h | ⟨r, e, h⟩
      · rw [h]; simp; omega
      · have := (List.pairwise_append.1 hpw).2.2 e (by rw [h]; simp) x (by simp)
        rw [h]; simp [List.getLastD_eq_getLast?]; omega
    have hstep : missA (S.take (j + 1)) = mstep (missA (S.take j)) x := by rw [htake, missA_snoc]
    have hpre : ∃ t, (missA S).1 = (missA (S.take j)).1 ++ List.range' (missA (S.take j)).2 (x - (missA (S.take j)).2) ++ t := by
      obtain ⟨t, ht⟩ := mstep_keep (S.drop (j + 1)) (mstep (missA (S.take j)) x)
      refine ⟨t, ?_⟩
      have : missA S = (S.drop (j + 1)).foldl mstep (mstep (missA (S.take j)) x) := by
        have h := missA_append (S.take j) (x :: S.drop (j + 1))
        rw [← hsplit] at h
        rw [h]; rfl
      rw [this, ht]; rfl
    show F33_2B _ _ _ _ _ _ _ _ _
    unfold F33_2B
    simp only [rdP_mk, rdI_mk, rdC_mk, nn_some, add_mk]
    refine ldC_at k1 rfl ?_
    simp only [br_dec]
    refine ⟨fun _ => ⟨x - (missA (S.take j)).2 + 1, ?_⟩, fun h => by exfalso; omega⟩
    refine r33_in (w0 := w0) hR hx hnx b1 hpre (x - (missA (S.take j)).2) (missA (S.take j)).2 w _ la l c (by omega) (Nat.le_refl _) hf (by simpa using ho) (by simpa using hN) (by omega) (fun w' la l c hf' ho' hN' _g => ?_) fun w' la c hf' ho' _g => ?_
    · simp only [rdP_mk, rdI_mk, rdC_mk]
      have e1 : IntKind.wrap .i64 ((j : Int) + 1) = ((j + 1 : Nat) : Int) := by rw [wrap_i64 (by omega) (by omega)]; omega
      have e2 : IntKind.wrap .i64 ((x : Int) + 1) = ((missA (S.take (j + 1))).2 : Int) := by rw [wrap_i64 (by omega) (by omega), hstep]; simp [mstep]
      rw [e1, e2]
      refine ih (j + 1) w' k la l c (by omega) hf' (by rw [hstep]; exact ho') (by rw [hstep]; exact hN') (by omega) hK hKr
    · simp only [rdC_mk]
      exact hKr w' la c hf' ho'
theorem r33 {w : World} (hR : RefR w b a cum S) (N : Int) :
    Calls Tryd.prog 33 #[.pointer (some ⟨b, 0, none⟩), .int .i64 N] w (rt fun v w' => ∃ a c, v = .slice a (missS S N).length c ∧ Own w' w.heap.size 22 1 a (missS S N).length c (numV cum (missS S N)) ∧ Same w w') := by
  refine F33_ok ?_
  unfold F33
  simp only [rdP_mk, rdI_mk]
  refine ⟨S.length + 1, r33_out (w0 := w) hR S.length 0 w _ none 0 0 (by omega) (Fr.refl w) (Own.nil _ _ _ _) (.inr rfl) (by omega) (fun w' la c hf ho _g => ?_) fun w' la c hf ho _g => ?_⟩
  · simp only [rdC_mk]; exact ⟨la, c, rfl, ho, hf⟩
  · simp only [rdC_mk]; exact ⟨la, c, rfl, ho, hf⟩
end
end Go.Proofs.YtjcigidbnpmeaaaDoor
