/-
  Own slices of one-cell elements: copied into.
-/
import Derived.Test.YtmliokbonkndaaaShP
import Derived.Laws.IdiomCopy
namespace Go.Sh
open Go
section
variable {P : Program} {W w : World} {L : List HP} {e elem dT sT ty : TypeId} {l c m d : Nat} {a b : Option Addr} {xs ys : List Value}
theorem Hs.copy1 (h : Hs W L w) (i : Nat) (hi : L[i]? = some (slP e 1 a l c xs)) (hu : P.underlying dT = some (.slice elem)) (hs : (P.info? elem).map (·.size) = some 1) (hy : ys.length = m) (hr : Rd w b ys) (h1 : ∀ v ∈ ys, v.oneCell' = true) (hle : m ≤ l)
    {K : Int → World → Prop} (hk : ∀ w', Hs W (L.set i (slP e 1 a l c (ys ++ xs.drop m))) w' → K (m : Int) w') :
    ∃ n w', Sem.run P (Builtin.copy_ #[dT, sT] ty #[.slice a l c, .slice b m d]) w = .ok (.int .i64 n) w' ∧ K n w' := by
  have ho := h.own i hi
  rcases Nat.eq_zero_or_pos m with h0 | h0
  · subst h0
    have : ys = [] := by simpa using hy
    subst this
    refine ⟨_, w, run_copy_none (P := P) w dT sT ty elem a b l c 0 d hu hs (by simp), hk w ?_⟩
    rw [List.drop_zero, List.nil_append, set_id hi]
    exact h
  · obtain ⟨bd, rfl⟩ := hr.some (by omega)
    rcases ho.cases with ⟨rfl, rfl, rfl⟩ | ⟨g, cur, rfl, h2, h3, h4, h5, h6, h7⟩
    · omega
    · have hrun := run_copy_row (P := P) w dT sT ty elem g 0 l c bd m d cur e ys hu hs h3 (by rw [hy]; exact (Nat.min_eq_left hle).symm) (fun j v hj => hr.at hj) (by simp at h6; omega) h1
      rw [setRow_sb h3] at hrun
      refine ⟨_, _, hrun, ?_⟩
      rw [hy]
      refine hk _ ?_
      have hxl := ho.length
      have hcl : cur.toList.length = c := by simp; omega
      refine h.slice i hi (B := W.heap.size) (l' := l) (c' := c) ?_ ((Fr.refl w).sb fun _ => ⟨_, rfl, rfl⟩) fun _ hk => .inl hk
      refine ⟨by rw [List.length_append, List.length_drop, hxl, hy]; omega, .inr ⟨g, c, _, rfl, h2, sb_same h3, h4, h5, ?_, ?_⟩⟩
      · simp only [List.size_toArray, List.length_append, List.length_take, List.length_drop, hcl, hy]
        omega
      · simp only [List.take_zero, List.nil_append, Nat.zero_add, Nat.mul_one] at h7 ⊢
        rw [List.take_append, hy, ← h7, List.take_of_length_le (by omega), List.drop_take]
end
end Go.Sh
