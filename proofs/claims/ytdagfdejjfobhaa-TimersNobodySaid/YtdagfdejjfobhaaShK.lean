/-
  Appending one element.
-/
import Derived.Test.YtdagfdejjfobhaaShJ
namespace Go.Sh
open Go
theorem Pres.alloc (w : World) (o : Obj) : Pres w (w.alloc o) :=
  ⟨by simp, fun a v h => by rw [← h]; exact World.cell?_of_block (alloc_old (World.block_lt_of_cell? w a h)), fun r es c h => alloc_blk h⟩
theorem push_own {P : Program} {w : World} {base : Nat} {t ty e : TypeId} {size bytes : Nat} {z : Value} {i : TypeInfo} (E : ElemT P t e size bytes z i) {a : Option Addr} {l c : Nat} {xs : List Value} (h : Own w base e size a l c xs)
    {news : Array Value} (hz : news.size = size) (h1 : ∀ u ∈ news.toList, u.oneCell' = true) (hn : l + 1 ≤ 281474976710656) (hb : (l + 1) * bytes ≤ 140737488355328) (hbase : base ≤ w.heap.size) :
    ∃ a' c' w', Sem.run P (Builtin.append_ #[t, t] ty #[.slice a l c, .slice (some (Addr.mk w.heap.size 0 none)) 1 1]) (w.alloc (.cells news e)) = .ok (.slice a' (l + 1) c') w' ∧ Own w' base e size a' (l + 1) c' (xs ++ news.toList) ∧ Fr (inB a) w w' ∧ (∀ k, inB a' k → inB a k ∨ w.heap.size ≤ k) := by
  have hw : Fr (fun _ => False) w (w.alloc (.cells news e)) := (Fr.refl w).alloc _
  have h' : Own (w.alloc (.cells news e)) base e size a l c xs := h.fr hw fun _ _ h => h
  obtain ⟨a', l', c', w', hr, rfl, ho, hf, hi⟩ := append_own (ty := ty) E h' (b := Addr.mk w.heap.size 0 none) (m := 1) (d := 1) (news := news.toList) (by simp [hz])
    (fun j u hj => ⟨_, rfl, by rw [add_mk, cell_at (alloc_new w _)]; simpa using hj⟩) h1 hn hb (by simp; omega)
  refine ⟨a', c', w', hr, ho, (hw.mono (S' := inB a) fun i _ h => h.elim).trans hf fun i _ h => h, fun k hk => ?_⟩
  · rcases hi k hk with h | h
    · exact .inl h
    · simp at h; exact .inr (by omega)
section
variable {P : Program} {w : World} {base : Nat} {t ty e : TypeId} {size bytes : Nat} {z : Value} {i : TypeInfo} {a : Option Addr} {l c : Nat} {xs : List Value} {news : Array Value}
theorem push {K : Option Addr → Nat → Nat → World → Prop} (E : ElemT P t e size bytes z i) (h : Own w base e size a l c xs) (hz : news.size = size) (h1 : ∀ u ∈ news.toList, u.oneCell' = true) (hn : l + 1 ≤ 281474976710656) (hb : (l + 1) * bytes ≤ 140737488355328) (hbase : base ≤ w.heap.size)
    (hk : ∀ a' c' w', Own w' base e size a' (l + 1) c' (xs ++ news.toList) → Fr (inB a) w w' → (∀ k, inB a' k → inB a k ∨ w.heap.size ≤ k) → K a' (l + 1) c' w') :
    ∃ a' l' c' w', Sem.run P (Builtin.append_ #[t, t] ty #[.slice a l c, .slice (some (Addr.mk w.heap.size 0 none)) 1 1]) (w.alloc (.cells news e)) = .ok (.slice a' l' c') w' ∧ K a' l' c' w' := by
  obtain ⟨a', c', w', hr, h2, h3, h4⟩ := push_own (ty := ty) E h hz h1 hn hb hbase
  exact ⟨a', _, c', w', hr, hk a' c' w' h2 h3 h4⟩
theorem Own.put {K : World → Prop} {ad : Addr} {j : Nat} {v : Value} (h : Own w base e size (some ad) l c xs) (hj : j < xs.length)
    (hk : ∀ w', Own w' base e size (some ad) l c (xs.set j v) → Fr (inB (some ad)) w w' → K w') : stc (ad.add j) v w K := by
  rcases h.cases with ⟨h0, _⟩ | ⟨g, cur, h0, h2, h3, h4, h5, h6, h7⟩
  · cases h0
  · cases h0
    rw [add_mk, Nat.zero_add]
    have hl := h.length
    have hjc : j < cur.size := by have := Nat.mul_le_mul_right size h4; omega
    refine stc_at h3 hjc (hk _ ⟨by rw [List.length_set]; exact h.1, .inr ⟨g, c, _, rfl, h2, sb_same h3, h4, h5, by simpa using h6, ?_⟩⟩ ((Fr.refl w).sb fun _ => ⟨_, rfl, rfl⟩))
    rw [Array.toList_setIfInBounds, List.take_set, h7]
theorem Own.cut {n : Nat} (h : Own w base e size a l c xs) (hn : n ≤ l) : Own w base e size a n c (xs.take (n * size)) := by
  have hl := h.length
  have hm := Nat.mul_le_mul_right size hn
  refine ⟨by rw [List.length_take]; omega, ?_⟩
  rcases h.cases with ⟨rfl, rfl, rfl⟩ | ⟨g, cur, rfl, h2, h3, h4, h5, h6, h7⟩
  · have : n = 0 := by omega
    subst this
    exact .inl ⟨rfl, rfl⟩
  · exact .inr ⟨g, c, cur, rfl, h2, h3, by omega, h5, h6, by rw [← h7, List.take_take, Nat.min_eq_left hm]⟩
theorem Own.le (h : Own w base e size a l c xs) : l ≤ c := by
  rcases h.cases with ⟨rfl, rfl, rfl⟩ | ⟨g, cur, rfl, h2, h3, h4, h5, h6, h7⟩
  · exact Nat.le_refl _
  · exact h4
theorem slS_hi {sz : Nat} {k : IntKind} {n : Nat} {K : Option Addr → Nat → Nat → Prop} (hn : n ≤ c) (hk : K a n c) : slS sz a l c none (some (.int k (n : Int))) K := by
  have : (if c = 0 then a else a.map (·.add (0 * sz))) = a := by
    split
    · rfl
    · cases a
      · rfl
      · simp [Addr.add]
  unfold slS bnd
  refine ⟨⟨by omega, by omega⟩, ?_⟩
  show K (if c = 0 then a else a.map (·.add (0 * sz))) ((n : Int).toNat - 0) (c - 0)
  rw [this]
  simpa using hk
end
end Go.Sh
