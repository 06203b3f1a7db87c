/-
  What was handed in, opened part by part with its reading.
-/
import Derived.Test.YtaflmpbeonoilaaShY
namespace Go.Sh
open Go
section
variable {H : Type} {enc : TypeId × Value → H} {P : Program} {w : World}
/-- a struct's fields, each by its reading, which is a part of the whole's -/
theorem fld_of3 {t : TypeId} {l : List (TypeId × Nat)} {n : Nat} {cs : List Value} {x : DataW H × List MemPlace} (hs : structIs P t l = true) (h : DataW.trod enc P w 0 (fun _ => true) true n t cs = some x) :
    ∃ m parts, x.1 = .agg parts ∧ ∀ (i : Nat) ty off, l[i]? = some (ty, off) → ∃ y, DataW.trod enc P w 0 (fun _ => true) true m ty ((cs.drop off).take (P.cellsOf ty)) = some y ∧ parts[i]? = some y.1 ∧ (light P t x.1 → light P ty y.1) := by
  obtain ⟨fs, hu, hl⟩ := struct_of hs
  obtain ⟨xs, m, _, hxe, _, hxl, hx⟩ := DataW.trod_struct hu h
  have hxa : x.1 = .agg (xs.map (·.1)) := congrArg Prod.fst hxe
  refine ⟨m, xs.map (·.1), hxa, fun i ty off hi => ?_⟩
  rw [← hl, List.getElem?_map] at hi
  cases hf : fs.toList[i]? with
  | none => rw [hf] at hi; cases hi
  | some f =>
    rw [hf] at hi
    cases hi
    have hf' : fs[i]? = some f := by rw [← Array.getElem?_toList]; exact hf
    have hlt := (Array.getElem?_eq_some_iff.1 hf').1
    have := hx i f hf'
    obtain ⟨y, hy⟩ : ∃ y, xs[i]? = some y := ⟨xs[i]'(by omega), by simp⟩
    refine ⟨y, by rw [this, hy], by rw [List.getElem?_map, hy]; rfl, fun hw k hk => hw k ?_⟩
    rw [hxa, DataW.weights, hu]
    exact weightsEach_mem (j := i) (by rw [List.getElem?_map, hf]; rfl) (by rw [List.getElem?_map, hy]; rfl) k hk
/-- a slice of records -/
theorem recs_open3 {t e : TypeId} {sz : Nat} {Q : List Value → Prop} {n : Nat} {cs : List Value} {x : DataW H × List MemPlace} (hs : 0 < sz) (ht : P.underlying t = some (.slice e)) (hc : P.cellsOf e = sz)
    (hQ : ∀ (n : Nat) (r : List Value) (y : DataW H × List MemPlace), r.length = sz → DataW.trod enc P w 0 (fun _ => true) true n e r = some y → (light P t x.1 → light P e y.1) → Q r)
    (h : DataW.trod enc P w 0 (fun _ => true) true n t cs = some x) : ∃ (a : Option Addr) (rows : List (List Value)) (c : Nat), cs = [.slice a rows.length c] ∧ rows.length ≤ c ∧ c ≤ maxLen ∧ (a = none → c = 0) ∧ Rd w a rows.flatten ∧ (∀ r ∈ rows, r.length = sz ∧ Q r) ∧ (rows = [] ∨ ∃ es sp, x.1 = .slice es sp ∧ rows.length ≤ es.length) := by
  rcases DataW.trod_slice ht h with ⟨hcs, hx⟩ | ⟨a, len, cap, elems, rest, n, _, hcs, hx, hb, hl, hm, hlen, hel, _, _⟩
  · exact ⟨none, [], 0, hcs, Nat.le_refl _, Nat.zero_le _, fun _ => rfl, Rd.nil _ _, by simp, .inl rfl⟩
  · have hd : x.1 = .slice (elems.map (·.1)) (rest.map (·.1)) := congrArg Prod.fst hx
    rw [hc] at hel
    have each : ∀ i, i < len → ∃ cs, w.cells? 0 (a.add (i * sz)) sz = some cs ∧ Q cs := by
      intro i hi
      have h1 := hel i hi
      obtain ⟨y, hy⟩ : ∃ y, elems[i]? = some y := ⟨elems[i]'(by omega), by simp⟩
      rw [hy, Option.bind_eq_some_iff] at h1
      obtain ⟨cs, h2, h3⟩ := h1
      refine ⟨cs, h2, hQ n cs y (cells_list h2).1 h3 fun hw => ?_⟩
      rw [hd] at hw
      exact light_elem ht hw (List.mem_map.2 ⟨y, List.mem_of_getElem? hy, rfl⟩)
    have all : ∀ l, l ≤ len → ∃ rows : List (List Value), rows.length = l ∧ (∀ i r, rows[i]? = some r → w.cells? 0 (a.add (i * sz)) sz = some r) ∧ ∀ r ∈ rows, Q r := by
      intro l
      induction l with
      | zero => intro _; exact ⟨[], rfl, by simp, by simp⟩
      | succ l ih =>
        intro hl'
        obtain ⟨rows, r1, r2, r3⟩ := ih (by omega)
        obtain ⟨cs, h1, h2⟩ := each l (by omega)
        refine ⟨rows ++ [cs], by simp [r1], fun i r hr => ?_, fun r hr => ?_⟩
        · rcases Nat.lt_or_ge i rows.length with hi | hi
          · rw [List.getElem?_append_left hi] at hr; exact r2 i r hr
          · rw [List.getElem?_append_right hi] at hr
            have : i - rows.length = 0 := by
              rcases Nat.eq_zero_or_pos (i - rows.length) with h | h
              · exact h
              · rw [List.getElem?_eq_none (by simp; omega)] at hr; cases hr
            rw [this] at hr
            simp at hr; subst hr
            have : i = l := by omega
            subst this; exact h1
        · rcases List.mem_append.1 hr with hr | hr
          · exact r3 r hr
          · simp at hr; subst hr; exact h2
    obtain ⟨rows, r1, r2, r3⟩ := all len (Nat.le_refl _)
    have hrl : ∀ r ∈ rows, r.length = sz := fun r hr => by
      obtain ⟨i, hi⟩ := List.getElem?_of_mem hr
      exact (cells_list (r2 i r hi)).1
    refine ⟨some a, rows, cap, by rw [r1]; exact hcs, by omega, hm, (fun h => by cases h), fun j u hj => ⟨a, rfl, ?_⟩, fun r hr => ⟨hrl r hr, r3 r hr⟩, .inr ⟨_, _, hd, by rw [List.length_map]; omega⟩⟩
    rw [flatten_at hs hrl, Option.bind_eq_some_iff] at hj
    obtain ⟨r, h1, h2⟩ := hj
    have h3 := (cells_list (r2 _ r h1)).2 (j % sz) (Nat.mod_lt _ hs)
    rw [add_add, h2] at h3
    rw [← h3]
    congr 2
    have := Nat.div_add_mod j sz
    rw [Nat.mul_comm] at this
    exact this.symm
theorem flatMap_one {α : Type} (f : α → Value) : ∀ (rs : List α), (rs.flatMap fun x => [f x]) = rs.map f
  | [] => rfl
  | x :: r => by rw [List.flatMap_cons, flatMap_one f r]; rfl
/-- a slice whose elements nobody asks for -/
theorem slc_open {t e : TypeId} {n : Nat} {cs : List Value} {x : DataW H × List MemPlace} (ht : P.underlying t = some (.slice e)) (h : DataW.trod enc P w 0 (fun _ => true) true n t cs = some x) : ∃ a l c, cs = [.slice a l c] := by
  rcases DataW.trod_slice ht h with ⟨hcs, hx⟩ | ⟨a, len, cap, elems, rest, n, _, hcs, _⟩
  · exact ⟨_, _, _, hcs⟩
  · exact ⟨_, _, _, hcs⟩
end
end Go.Sh
