/-
  Own slices: appended to where there is room; an element taken out in place; the rest cleared.
-/
import Derived.Test.YtaflmpbeonoilaaShL
import Derived.Laws.CopyRow
namespace Go.Sh
open Go
theorem setRow_sb {w : World} {g : Nat} {old cs : Array Value} {t : TypeId} {fr : Nat × Nat} (h : w.heap[g]? = some (.cells old t fr)) : w.setRow g cs = sb w g (.cells cs t fr) := by
  unfold World.setRow sb
  congr 1
  apply Array.ext_getElem?
  intro i
  rw [Array.getElem?_modify]
  by_cases hi : g = i
  · subst hi
    have := lt_of_blk h
    rw [if_pos rfl, h]
    simp [this]
  · rw [if_neg hi, Array.getElem?_setIfInBounds_ne hi]
section
variable {P : Program} {w : World} {base : Nat} {t ty e : TypeId} {size bytes : Nat} {z : Value} {i : TypeInfo} {ad b : Addr} {l c m d : Nat} {xs news : List Value}
/-- there is room: the same array -/
theorem append_room_own (E : ElemT P t e size bytes z i) (h : Own w base e size (some ad) l c xs) (hl : news.length = m * size) (hnews : Rd w (some b) news) (h1 : ∀ u ∈ news, u.oneCell' = true) (hroom : l + m ≤ c) :
    ∃ w', Sem.run P (Builtin.append_ #[t, t] ty #[.slice (some ad) l c, .slice (some b) m d]) w = .ok (.slice (some ad) (l + m) c) w' ∧ Own w' base e size (some ad) (l + m) c (xs ++ news) ∧ Fr (inB (some ad)) w w' := by
  rcases h.cases with ⟨h0, _⟩ | ⟨g, cur, h0, h2, h3, h4, h5, h6, h7⟩
  · cases h0
  · cases h0
    have hmul : (l + m) * size ≤ c * size := Nat.mul_le_mul_right _ hroom
    have hmul' : (l + m) * size = l * size + m * size := Nat.add_mul _ _ _
    have hr := run_append_room (P := P) w t ty e i E.ht E.hi g l c cur h3 b m d news (by rw [E.hsize]; exact hl) (fun j u hj => hnews.at hj) h1 hroom (by rw [E.hsize, hl, h6]; omega)
    rw [setRow_sb h3] at hr
    refine ⟨_, hr, ⟨?_, .inr ⟨g, c, _, rfl, h2, sb_same h3, hroom, h5, ?_, ?_⟩⟩, (Fr.refl w).sb fun _ => ⟨_, rfl, rfl⟩⟩
    · rw [List.length_append, h.length, hl, hmul']
    · have hcl : cur.toList.length = c * size := by simpa using h6
      simp only [List.size_toArray, List.length_append, List.length_take, List.length_drop, E.hsize, hl, hcl]
      omega
    · have hxl := h.length
      rw [E.hsize, h7, List.take_append_of_le_length (by rw [List.length_append, hxl, hl]; omega), List.take_of_length_le (by rw [List.length_append, hxl, hl]; omega)]
/-- what stands behind the end is cleared -/
theorem clear_own (E : ElemT P t e size bytes z i) (hz1 : ∀ u ∈ z.cells.toList, u.oneCell' = true) (h : Own w base e size (some ad) l c xs) (hc : l + m ≤ c) :
    ∃ w', Sem.run P (Builtin.clear_ #[t] ty #[.slice (some (ad.add (l * size))) m d]) w = .ok (.tuple #[]) w' ∧ Own w' base e size (some ad) l c xs ∧ Fr (inB (some ad)) w w' := by
  rcases h.cases with ⟨h0, _⟩ | ⟨g, cur, h0, h2, h3, h4, h5, h6, h7⟩
  · cases h0
  · cases h0
    rw [add_mk, Nat.zero_add]
    cases m with
    | zero => exact ⟨w, by simp [Builtin.clear_, run_underlying E.ht], h, Fr.refl w⟩
    | succ m =>
      have hmul : (l + (m + 1)) * size ≤ c * size := Nat.mul_le_mul_right _ hc
      have hmul' : (l + (m + 1)) * size = l * size + (m + 1) * size := Nat.add_mul _ _ _
      have hzl : (Builtin.zeroCells z.cells (m + 1)).toList.length = (m + 1) * size := by simp [Builtin.zeroCells, E.hzs]
      have hst := run_storeCells_at P g (l * size) e (Builtin.zeroCells z.cells (m + 1)).toList 0 cur w h3 (by rw [hzl, h6]; omega) (fun v hv => by
        unfold Builtin.zeroCells at hv
        simp only [Array.toList_map, List.mem_map] at hv
        obtain ⟨k, _, rfl⟩ := hv
        have hp : 0 < z.cells.size := by rw [E.hzs]; exact E.pos
        have hk : k % z.cells.size < z.cells.size := Nat.mod_lt _ hp
        rw [getElem!_pos z.cells _ hk]
        exact hz1 _ (by simp))
      have hv : (zeroValue e).run P w = .ok z w := by simp [zeroValue, typeInfo, E.hi, E.hz]
      rw [setRow_sb h3] at hst
      have hrun : Sem.run P (Builtin.clear_ #[t] ty #[.slice (some ⟨g, l * size, none⟩) (m + 1) d]) w = .ok (.tuple #[]) (sb w g (.cells (cur.toList.take (l * size + 0) ++ (Builtin.zeroCells z.cells (m + 1)).toList ++ cur.toList.drop (l * size + 0 + (Builtin.zeroCells z.cells (m + 1)).toList.length)).toArray e (0, 0))) := by
        simp [Builtin.clear_, run_underlying E.ht, hv, hst]
      refine ⟨_, hrun, ⟨h.length, .inr ⟨g, c, _, rfl, h2, sb_same h3, h4, h5, ?_, ?_⟩⟩, (Fr.refl w).sb fun _ => ⟨_, rfl, rfl⟩⟩
      · have hcl : cur.toList.length = c * size := by simpa using h6
        simp only [List.size_toArray, List.length_append, List.length_take, List.length_drop, hzl, hcl]
        omega
      · have hcl : cur.toList.length = c * size := by simpa using h6
        simp only [Nat.add_zero]
        rw [List.append_assoc, List.take_append_of_le_length (by rw [List.length_take]; omega), List.take_take, Nat.min_self, h7]
theorem slS_lo {sz : Nat} {a : Option Addr} {k : IntKind} {j : Nat} {K : Option Addr → Nat → Nat → Prop} (hj : j ≤ l) (hk : K (if c = j then a else a.map (·.add (j * sz))) (l - j) (c - j)) : slS sz a l c (some (.int k (j : Int))) none K := by
  unfold slS bnd
  exact ⟨⟨by omega, by omega⟩, hk⟩
theorem slS_lh {sz : Nat} {a : Option Addr} {k k' : IntKind} {j h : Nat} {K : Option Addr → Nat → Nat → Prop} (hj : j ≤ h) (hh : h ≤ c) (hk : K (if c = j then a else a.map (·.add (j * sz))) (h - j) (c - j)) : slS sz a l c (some (.int k (j : Int))) (some (.int k' (h : Int))) K := by
  unfold slS bnd
  exact ⟨⟨by omega, by omega⟩, ⟨by omega, by simp; omega⟩, hk⟩
/-- a slice of a slice, with all three bounds -/
theorem slice3 (E : ElemT P t e size bytes z i) {a : Option Addr} {k k' k'' : IntKind} {x y m : Nat} {K : Option Addr → Nat → Nat → World → Prop} (h1 : x ≤ y) (h2 : y ≤ m) (h3 : m ≤ c) (hk : K (if m = x then a else a.map (·.add (x * size))) (y - x) (m - x) w) :
    ∃ a' l' c' w', Sem.run P (Instr.sliceAt t (.slice a l c) (some (.int k (x : Int))) (some (.int k' (y : Int))) (some (.int k'' (m : Int)))) w = .ok (.slice a' l' c') w' ∧ K a' l' c' w' := by
  have he : P.elem t = e := by simp [Program.elem, E.ht]
  have ht : P.underlying t = some (.slice (P.elem t)) := by rw [he]; exact E.ht
  have hs : (sizeOf e).run P w = .ok size w := by simp [sizeOf, typeInfo, E.hi, E.hsize]
  refine ⟨_, _, _, w, ?_, hk⟩
  rw [run_sliceAt_slice w t _ _ _ _ ht, run_slice_lhm w t a l c ht k k' k'' (x : Int) (y : Int) (m : Int) (by omega) (by omega) (by omega) (by omega), he, hs]
  simp [sliced]
theorem Own.tail (h : Own w base e size (some ad) l c xs) {j : Nat} (hj : j ≤ l) : ∃ b, (if c = j then some ad else (some ad).map (·.add (j * size))) = some b ∧ Rd w (some b) (xs.drop (j * size)) := by
  by_cases hc : c = j
  · rw [if_pos hc]
    refine ⟨ad, rfl, ?_⟩
    have hl := h.length
    have hle := h.le
    have : xs.drop (j * size) = [] := List.drop_eq_nil_of_le (by rw [hl]; exact Nat.mul_le_mul_right _ (by omega))
    rw [this]
    exact Rd.nil _ _
  · rw [if_neg hc]
    refine ⟨_, rfl, fun k u hk => ⟨_, rfl, ?_⟩⟩
    rw [List.getElem?_drop] at hk
    rw [add_add]
    exact h.rd.at hk
end
end Go.Sh
