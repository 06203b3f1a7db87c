/-
  Go's sort of a slice of one's own: from the shelf's words to owned memory.
-/
import Derived.Test.YtdagfdejjfobhaaShMr
import Derived.Shelf.SlSortCmp.InsertionK
namespace Go.Sh
open Go Go.Sort Go.RowKit Go.Shelf Go.Lib Go.Proofs
section
variable {α : Type} [Inhabited α] {W w : World} {L : List HP} {P : Program} {enc : α → List Value} {k blk c : Nat} {e : TypeId} {d d' : Array α}
theorem flat_get! (hk : ∀ x, (enc x).length = k) (d : Array α) (t : Nat) (ht : t < d.size * k) : (d.toList.flatMap enc)[t]? = some ((flatK enc k d)[t]!) := by
  have k0 : 0 < k := by
    rcases Nat.eq_zero_or_pos k with h | h
    · subst h; simp at ht
    · exact h
  have hj : t / k < d.size := (Nat.div_lt_iff_lt_mul k0).2 ht
  rw [get_flatK enc k d t ht]
  have e1 : d.toList[t / k]? = some (d[t / k]!) := by
    rw [getElem!_pos d (t / k) hj]
    simp [hj]
  have hm : t % k < (enc d[t / k]!).length := by rw [hk]; exact Nat.mod_lt _ k0
  have := flat_get hk e1 (j := t % k) (Nat.mod_lt _ k0)
  have e2 : t / k * k + t % k = t := Nat.div_add_mod' t k
  rw [e2] at this
  rw [this, List.getElem?_eq_getElem hm, getElem!_pos (enc d[t / k]!) (t % k) hm]
theorem holds_own (hk : ∀ x, (enc x).length = k) (h : Hs W L w) (i : Nat) (hi : L[i]? = some (slP e k (some ⟨blk, 0, none⟩) d.size c (d.toList.flatMap enc))) : HoldsK enc k w blk 0 d ∧ blk < w.heap.size := by
  rcases Own.cases (h.own i hi) with ⟨h1, _⟩ | ⟨g, cur, h1, _, h3, h4, _, h6, h7⟩
  · cases h1
  have hg : blk = g := by
    have h1 := congrArg Addr.block (Option.some.inj h1)
    exact h1
  subst hg
  refine ⟨fun j hj => ?_, lt_of_blk h3⟩
  have hj : j < d.size * k := by simpa using hj
  have hle : d.size * k ≤ c * k := Nat.mul_le_mul_right k h4
  have hc : cur[j]? = some ((flatK enc k d)[j]!) := by
    rw [← flat_get! hk d j hj, ← h7, List.getElem?_take, if_pos hj, Array.getElem?_toList]
  refine ⟨?_, ?_⟩
  · show w.cell? ⟨blk, 0 + j, none⟩ = _
    unfold World.cell?
    simp only [h3, Nat.zero_add]
    exact hc
  · unfold World.frozen?
    simp [h3]
theorem Hs.sorted (hk : ∀ x, (enc x).length = k) (h : Hs W L w) (i : Nat) (hi : L[i]? = some (slP e k (some ⟨blk, 0, none⟩) d.size c (d.toList.flatMap enc))) (hs : d'.size = d.size) (m : Nat) (os : Array Obj) :
    Hs W (L.set i (slP e k (some ⟨blk, 0, none⟩) d.size c (d'.toList.flatMap enc))) (sortWorldK enc k w blk 0 m d' os) := by
  rcases Own.cases (h.own i hi) with ⟨h1, _⟩ | ⟨g, cur, h1, h2, h3, h4, h5, h6, h7⟩
  · cases h1
  have hg : blk = g := by
    have h1 := congrArg Addr.block (Option.some.inj h1)
    exact h1
  subst hg
  have hlt : blk < w.heap.size := lt_of_blk h3
  have heap : ∀ j, j < w.heap.size → (sortWorldK enc k w blk 0 m d' os).heap[j]? = if j = blk then some (.cells (putCells id 0 (flatK enc k d') cur) e (0, 0)) else w.heap[j]? := by
    intro j hj
    unfold sortWorldK putRowK putRow
    rw [heap_grow_old _ _ (by simpa [mapBlock] using hj)]
    unfold mapBlock
    simp only [heap_ahead, Array.getElem?_modify]
    by_cases hb : j = blk
    · subst hb
      simp only [if_true, h3, Option.map_some]
      rfl
    · rw [if_neg hb, if_neg (fun e => hb e.symm)]
  have hsz : w.heap.size ≤ (sortWorldK enc k w blk 0 m d' os).heap.size := by unfold sortWorldK putRowK; simp
  refine h.slice (B := W.heap.size) i hi ?_ ?_ fun _ hk => .inl hk
  · refine ⟨by rw [flat_length hk]; simp [hs], .inr ⟨blk, c, putCells id 0 (flatK enc k d') cur, rfl, h2, ?_, h4, h5, ?_, ?_⟩⟩
    · rw [heap blk hlt, if_pos rfl]
    · simp [putCells, h6]
    · have hle : d.size * k ≤ c * k := Nat.mul_le_mul_right k h4
      apply List.ext_getElem?
      intro t
      rw [List.getElem?_take]
      by_cases ht : t < d.size * k
      · rw [if_pos ht, flat_get! hk d' t (by rw [hs]; exact ht)]
        have hcur : t < cur.size := by omega
        simp only [putCells, Array.toList_mapIdx, List.getElem?_mapIdx, Array.getElem?_toList, Array.getElem?_eq_getElem hcur, Option.map_some]
        rw [if_pos ⟨Nat.zero_le _, by simp [hs]; exact ht⟩]
        rfl
      · rw [if_neg ht, List.getElem?_eq_none (by rw [flat_length hk]; simp [hs]; omega)]
  · refine ⟨rfl, rfl, rfl, hsz, fun j hj hn => ?_⟩
    rw [heap j hj, if_neg fun e => hn ⟨_, rfl, by rw [e]⟩]
end
end Go.Sh
