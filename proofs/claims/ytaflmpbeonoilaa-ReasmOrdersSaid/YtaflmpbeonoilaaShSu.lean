/-
  Go's sort of a slice of one's own: from the shelf's words to owned memory.
-/
import Derived.Test.YtaflmpbeonoilaaShMr
import Derived.Shelf.SlSortCmp.InsertionK
import Derived.Shelf.SlSortCmp.NoneTotal
namespace Go.Sh
open Go Go.Sort Go.RowKit Go.Shelf Go.Lib Go.Proofs
section
variable {α : Type} [Inhabited α] {W w : World} {L : List HP} {P : Program} {enc : α → List Value} {k blk c : Nat} {e : TypeId} {d d' : Array α}
theorem flat_get! (hk : ∀ x, (enc x).length = k) (d : Array α) (t : Nat) (ht : t < d.size * k) : (d.toList.flatMap enc)[t]? = some ((flatK enc k d)[t]!) := by
  have k0 : 0 < k := by
    rcases Nat.eq_zero_or_pos k with h | h
    · subst h; simp at ht
    · exact h
  have hj : t / k < d.size := (Nat.div_lt_iff_lt_mul k0).2 ht
  rw [get_flatK enc k d t ht]
  have e1 : d.toList[t / k]? = some (d[t / k]!) := by
    rw [getElem!_pos d (t / k) hj]
    simp [hj]
  have hm : t % k < (enc d[t / k]!).length := by rw [hk]; exact Nat.mod_lt _ k0
  have := flat_get hk e1 (j := t % k) (Nat.mod_lt _ k0)
  have e2 : t / k * k + t % k = t := Nat.div_add_mod' t k
  rw [e2] at this
  rw [this, List.getElem?_eq_getElem hm, getElem!_pos (enc d[t / k]!) (t % k) hm]
theorem holds_own (hk : ∀ x, (enc x).length = k) (h : Hs W L w) (i : Nat) (hi : L[i]? = some (slP e k (some ⟨blk, 0, none⟩) d.size c (d.toList.flatMap enc))) : HoldsK enc k w blk 0 d ∧ blk < w.heap.size := by
  rcases Own.cases (h.own i hi) with ⟨h1, _⟩ | ⟨g, cur, h1, _, h3, h4, _, h6, h7⟩
  · cases h1
  have hg : blk = g := by
    have h1 := congrArg Addr.block (Option.some.inj h1)
    exact h1
  subst hg
  refine ⟨fun j hj => ?_, lt_of_blk h3⟩
  have hj : j < d.size * k := by simpa using hj
  have hle : d.size * k ≤ c * k := Nat.mul_le_mul_right k h4
  have hc : cur[j]? = some ((flatK enc k d)[j]!) := by
    rw [← flat_get! hk d j hj, ← h7, List.getElem?_take, if_pos hj, Array.getElem?_toList]
  refine ⟨?_, ?_⟩
  · show w.cell? ⟨blk, 0 + j, none⟩ = _
    unfold World.cell?
    simp only [h3, Nat.zero_add]
    exact hc
  · unfold World.frozen?
    simp [h3]
theorem Hs.sorted (hk : ∀ x, (enc x).length = k) (h : Hs W L w) (i : Nat) (hi : L[i]? = some (slP e k (some ⟨blk, 0, none⟩) d.size c (d.toList.flatMap enc))) (hs : d'.size = d.size) (m : Nat) (os : Array Obj) :
    Hs W (L.set i (slP e k (some ⟨blk, 0, none⟩) d.size c (d'.toList.flatMap enc))) (sortWorldK enc k w blk 0 m d' os) := by
  rcases Own.cases (h.own i hi) with ⟨h1, _⟩ | ⟨g, cur, h1, h2, h3, h4, h5, h6, h7⟩
  · cases h1
  have hg : blk = g := by
    have h1 := congrArg Addr.block (Option.some.inj h1)
    exact h1
  subst hg
  have hlt : blk < w.heap.size := lt_of_blk h3
  have heap : ∀ j, j < w.heap.size → (sortWorldK enc k w blk 0 m d' os).heap[j]? = if j = blk then some (.cells (putCells id 0 (flatK enc k d') cur) e (0, 0)) else w.heap[j]? := by
    intro j hj
    unfold sortWorldK putRowK putRow
    rw [heap_grow_old _ _ (by simpa [mapBlock] using hj)]
    unfold mapBlock
    simp only [heap_ahead, Array.getElem?_modify]
    by_cases hb : j = blk
    · subst hb
      simp only [if_true, h3, Option.map_some]
      rfl
    · rw [if_neg hb, if_neg (fun e => hb e.symm)]
  have hsz : w.heap.size ≤ (sortWorldK enc k w blk 0 m d' os).heap.size := by unfold sortWorldK putRowK; simp
  refine h.slice (B := W.heap.size) i hi ?_ ?_ fun _ hk => .inl hk
  · refine ⟨by rw [flat_length hk]; simp [hs], .inr ⟨blk, c, putCells id 0 (flatK enc k d') cur, rfl, h2, ?_, h4, h5, ?_, ?_⟩⟩
    · rw [heap blk hlt, if_pos rfl]
    · simp [putCells, h6]
    · have hle : d.size * k ≤ c * k := Nat.mul_le_mul_right k h4
      apply List.ext_getElem?
      intro t
      rw [List.getElem?_take]
      by_cases ht : t < d.size * k
      · rw [if_pos ht, flat_get! hk d' t (by rw [hs]; exact ht)]
        have hcur : t < cur.size := by omega
        simp only [putCells, Array.toList_mapIdx, List.getElem?_mapIdx, Array.getElem?_toList, Array.getElem?_eq_getElem hcur, Option.map_some]
        rw [if_pos ⟨Nat.zero_le _, by simp [hs]; exact ht⟩]
        rfl
      · rw [if_neg ht, List.getElem?_eq_none (by rw [flat_length hk]; simp [hs]; omega)]
  · refine ⟨rfl, rfl, rfl, hsz, fun j hj hn => ?_⟩
    rw [heap j hj, if_neg fun e => hn ⟨_, rfl, by rw [e]⟩]
end
end Go.Sh
namespace Go.Sh
open Go Go.Sort Go.RowKit Go.Shelf Go.Lib Go.Proofs
section
variable {α : Type} [Inhabited α] {W w : World} {L : List HP} {P : Program} {enc : α → Value} {blk c : Nat} {e : TypeId} {d d' : Array α}
def enc1 (enc : α → Value) : α → List Value := fun x => [enc x]
omit [Inhabited α] in
theorem enc1_len (enc : α → Value) (x : α) : (enc1 enc x).length = 1 := rfl
theorem flat1_get (d : Array α) (t : Nat) (h : t < d.size) : (flatK (enc1 enc) 1 d)[t]! = enc d[t]! := by
  rw [get_flatK (enc1 enc) 1 d t (by omega)]
  simp [enc1, Nat.mod_one]
theorem sortWorld_one (enc : α → Value) (w : World) (blk m : Nat) (d : Array α) (os : Array Obj) : sortWorld enc w blk 0 m d os = sortWorldK (enc1 enc) 1 w blk 0 m d os := by
  unfold sortWorld sortWorldK putRowK putRow
  congr 2
  funext cs
  unfold putCells
  congr 1
  funext k x
  simp only [size_flatK, Nat.mul_one, Nat.sub_zero, id]
  split
  · rename_i h
    rw [flat1_get d k (by omega)]
  · rfl
omit [Inhabited α] in
theorem flat1 (enc : α → Value) (l : List α) : l.flatMap (enc1 enc) = l.map enc := by
  induction l with
  | nil => rfl
  | cons a l ih => rw [List.flatMap_cons, ih]; rfl
theorem holds_own1 (h : Hs W L w) (i : Nat) (hi : L[i]? = some (slP e 1 (some ⟨blk, 0, none⟩) d.size c (d.toList.map enc))) : Holds enc w blk 0 d ∧ blk < w.heap.size := by
  rw [← flat1] at hi
  obtain ⟨h1, h2⟩ := holds_own (enc := enc1 enc) (k := 1) (enc1_len enc) h i hi
  refine ⟨fun j hj => ?_, h2⟩
  obtain ⟨g1, g2⟩ := h1 j (by simpa using hj)
  rw [flat1_get d j hj] at g1
  exact ⟨g1, g2⟩
theorem Hs.sorted1 (h : Hs W L w) (i : Nat) (hi : L[i]? = some (slP e 1 (some ⟨blk, 0, none⟩) d.size c (d.toList.map enc))) (hs : d'.size = d.size) (m : Nat) (os : Array Obj) :
    Hs W (L.set i (slP e 1 (some ⟨blk, 0, none⟩) d.size c (d'.toList.map enc))) (sortWorld enc w blk 0 m d' os) := by
  rw [← flat1] at hi ⊢
  rw [sortWorld_one]
  exact h.sorted (enc1_len enc) i hi hs m os
/-- what else lies there is as it was -/
theorem sortWorld_other {m j : Nat} {os : Array Obj} {o : Obj} (h : w.heap[j]? = some o) (hj : j ≠ blk) : (sortWorld enc w blk 0 m d os).heap[j]? = some o := by
  have hlt := lt_of_blk h
  unfold sortWorld putRow
  rw [heap_grow_old _ _ (by simpa [mapBlock] using hlt)]
  unfold mapBlock
  simp only [heap_ahead, Array.getElem?_modify]
  rw [if_neg (fun e => hj e.symm)]
  exact h
end
end Go.Sh
