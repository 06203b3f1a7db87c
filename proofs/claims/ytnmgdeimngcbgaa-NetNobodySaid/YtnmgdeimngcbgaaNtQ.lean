/- Own text: part of the shallow reading of the code and of the contracts that are proved over it. -/
import Derived.Test.YtnmgdeimngcbgaaNtP
namespace Go.Proofs.Ytnmgdeimngcbgaa
open Go Go.Sh
section
variable {e q : Int} {a : Option Addr} {l c : Nat}
theorem c6_loop {w0 : World} {g : Nat} {ps : List (Option Addr)} (hu : ∀ p ∈ ps, Un w0 p) (hc : Rd w0 (some ⟨g, 0, none⟩) (ps.map Value.pointer)) (hl : ps.length = 2) {K0 : World → Prop} {Kr : Value → World → Prop} : ∀ (i j : Nat) (w : World) (k : Nat), j + i = 2 → Same w0 w → i < k → (∀ w', Same w0 w' → K0 w') →
    F6_1 K0 Kr k (.int .i64 e) (.int .i64 q) (.slice a l c) (.slice (some ⟨g, 0, none⟩) 2 2) (.int .i64 (2 : Int)) (.int .i64 (j : Int)) w := by
  intro i
  induction i with
  | zero =>
    intro j w k hj hf hk hK
    obtain ⟨k, rfl⟩ : ∃ j, k = j + 1 := ⟨k - 1, by omega⟩
    show F6_1B _ _ _ _ _ _ _ _ _ _
    unfold F6_1B
    simp only [rdI_mk, rdC_mk, br_dec]
    exact ⟨fun h => by exfalso; omega, fun _ => hK w hf⟩
  | succ i ih =>
    intro j w k hj hf hk hK
    obtain ⟨k, rfl⟩ : ∃ j, k = j + 1 := ⟨k - 1, by omega⟩
    show F6_1B _ _ _ _ _ _ _ _ _ _
    unfold F6_1B
    simp only [rdI_mk, rdC_mk, br_dec]
    refine ⟨fun _ => ?_, fun h => by exfalso; omega⟩
    obtain ⟨p, hp⟩ : ∃ x, ps[j]? = some x := ⟨ps[j]'(by omega), by simp⟩
    have h0 := (hu p (List.mem_of_getElem? hp)).same hf
    have hg : (ps.map Value.pointer)[j]? = some (.pointer p) := by simp [hp]
    refine ixS_of (by omega) (by omega) ?_
    simp only [Int.toNat_natCast, Nat.mul_one]
    refine ldP_c ((Rd.same hc hf).at hg) ?_
    refine clr (n9 h0) ⟨_, _, rfl, clr (n16 h0) ⟨_, _, rfl, clr (n11 h0) ⟨_, _, _, _, rfl, ?_⟩⟩⟩
    refine cl (n12 h0) ?_
    rintro _ w1 ⟨rfl, f1⟩
    refine ⟨_, _, _, _, rfl, ?_⟩
    have h1 := h0.same f1
    refine cl (n17 h1) ?_
    rintro _ w2 ⟨rfl, f2⟩
    refine ⟨_, _, rfl, ?_⟩
    have h2 := h1.same f2
    refine cl (n13 h2) ?_
    rintro _ w3 ⟨rfl, f3⟩
    refine ⟨_, _, _, _, _, rfl, ?_⟩
    unfold alc
    simp only [add_mk]
    have b1 := alloc_new w3 (.cells #[.int .i64 0, .int .i64 0, .int .i64 0, .int .i64 0] 48)
    refine stc_at b1 (by simp) (stc_at (sb_same b1) (by simp) (stc_at (sb_same (sb_same b1)) (by simp) (stc_at (sb_same (sb_same (sb_same b1))) (by simp) ?_)))
    generalize hw4 : sb _ w3.heap.size _ = w4
    have f4 : Same w3 w4 := by
      rw [← hw4]
      exact (((((Fr.refl w3).alloc _).sb (b := w3.heap.size) fun x => by omega).sb (b := w3.heap.size) fun x => by omega).sb (b := w3.heap.size) fun x => by omega).sb (b := w3.heap.size) fun x => by omega
    clear hw4
    have h4 := (h2.same f3).same f4
    have e44 : ((4 : Int) != 4) = false := rfl
    simp only [e44, br_false]
    refine clr (n18 h4) ⟨_, rfl, ?_⟩
    simp only [e44, br_false]
    refine cl (n19 h4) ?_
    rintro _ w5 ⟨rfl, f5⟩
    refine ⟨_, rfl, ?_⟩
    simp only [e44, br_false]
    have h5 := h4.same f5
    refine clr (n20 h5) ⟨_, rfl, ?_⟩
    simp only [e44, br_false]
    refine clr (n21 h5) ⟨_, rfl, ?_⟩
    simp only [e44, br_false]
    refine clr (n22 h5) ⟨_, rfl, ?_⟩
    simp only [br_false]
    refine clr (n23 h5) ⟨_, rfl, ?_⟩
    have e00 : ((0 : Int) != 0) = false := rfl
    rw [e00, br_false]
    have e1 : IntKind.wrap .i64 ((j : Int) + 1) = ((j + 1 : Nat) : Int) := by rw [wrap_i64 (by omega) (by omega)]; omega
    rw [e1]
    exact ih (j + 1) w5 k (by omega) (((((hf.trans f1 fun _ _ x => x).trans f2 fun _ _ x => x).trans f3 fun _ _ x => x).trans f4 fun _ _ x => x).trans f5 fun _ _ x => x) (by omega) hK
theorem c6 {w : World} : Calls Try.prog 6 #[.int .i64 e, .int .i64 q, .slice a l c] w (rt fun v w' => v = .bool true ∧ Same w w') := by
  refine F6_ok ?_
  unfold F6 alc
  simp only [rdI_mk, rdC_mk]
  obtain ⟨w1, hw1⟩ : ∃ w1, w1 = w.alloc (.cells #[.slice none 0 0, .slice none 0 0, .int .i64 0] 57) := ⟨_, rfl⟩
  have b1 : w1.heap[w.heap.size]? = some (.cells #[.slice none 0 0, .slice none 0 0, .int .i64 0] 57 (0, 0)) := by rw [hw1]; exact alloc_new _ _
  have f1 : Same w w1 := by rw [hw1]; exact (Fr.refl w).alloc _
  rw [← hw1]
  clear hw1
  obtain ⟨w2, hw2⟩ : ∃ w2, w2 = w1.alloc (.cells #[.pointer none, .pointer (some ⟨w.heap.size, 0, none⟩)] 24) := ⟨_, rfl⟩
  have b2 : w2.heap[w1.heap.size]? = some (.cells #[.pointer none, .pointer (some ⟨w.heap.size, 0, none⟩)] 24 (0, 0)) := by rw [hw2]; exact alloc_new _ _
  have q2 : w2.heap[w.heap.size]? = some (.cells #[.slice none 0 0, .slice none 0 0, .int .i64 0] 57 (0, 0)) := by rw [hw2]; exact alloc_blk b1
  have f2 : Same w w2 := by rw [hw2]; exact f1.alloc _
  rw [← hw2]
  clear hw2
  refine ⟨3, c6_loop (w0 := w2) (ps := [none, some ⟨w.heap.size, 0, none⟩]) (fun p hp => ?_) (fun j u hj => ⟨_, rfl, ?_⟩) rfl 2 0 w2 _ rfl (Fr.refl w2) (by omega) fun w3 f3 _g => ?_⟩
  · simp at hp
    rcases hp with rfl | rfl
    · exact .inl rfl
    · exact .inr ⟨_, rfl, q2⟩
  · rw [add_mk, cell_at b2]
    match j, hj with
    | 0, hj => simpa using hj
    | 1, hj => simpa using hj
    | j + 2, hj => simp at hj
  · have g3 : Same w w3 := f2.trans f3 fun _ _ x => x
    refine cl (c8 w3) ?_
    rintro _ w7 ⟨rfl, f7⟩
    exact ⟨_, rfl, rfl, g3.trans f7 fun _ _ x => x⟩
end
end Go.Proofs.Ytnmgdeimngcbgaa
