/-
  What an argument weighs, part by part.
-/
import Derived.Test.YtaflmpbeonoilaaShW
import Derived.SizedLaws
namespace Go.Sh
open Go Go.ChangeShapes Go.WideShapes Go.ChangeAt Go.WideMaps Go.WideElems Go.RowKit
section
variable {H : Type} {enc : TypeId × Value → H} {P : Program} {w : World}
def light (P : Program) (t : TypeId) (d : DataW H) : Prop := ∀ n ∈ d.weights P t, n ≤ reachBytes
theorem light_each {ts : List TypeId} {ds : List (DataW H)} (h : (DataW.weightsEach P ts ds).all (· ≤ reachBytes) = true) {j : Nat} {t : TypeId} {d : DataW H} (ht : ts[j]? = some t) (hd : ds[j]? = some d) : light P t d := fun n hn => by
  have := List.all_eq_true.1 h _ (DataW.weights_mem_each ht hd n hn)
  simpa using this
theorem weightsAll_mem {e : TypeId} : ∀ {ds : List (DataW H)} {d : DataW H}, d ∈ ds → ∀ n ∈ d.weights P e, n ∈ DataW.weightsAll P e ds
  | a :: ds, d, hd, n, hn => by
    rw [DataW.weightsAll, List.mem_append]
    rcases List.mem_cons.1 hd with rfl | hd
    · exact .inl hn
    · exact .inr (weightsAll_mem hd n hn)
theorem light_elem {t e : TypeId} {es sp : List (DataW H)} (ht : P.underlying t = some (.slice e)) (h : light P t (.slice es sp)) {d : DataW H} (hd : d ∈ es) : light P e d := fun n hn => by
  refine h n ?_
  rw [DataW.weights, ht]
  simp only [List.mem_cons, List.mem_append]
  exact .inr (.inl (weightsAll_mem hd n hn))
theorem light_len {t e : TypeId} {es sp : List (DataW H)} (ht : P.underlying t = some (.slice e)) (h : light P t (.slice es sp)) : (es.length + sp.length) * P.bytesOf e ≤ reachBytes := by
  refine h _ ?_
  rw [DataW.weights, ht]
  simp
theorem recs_in2 {r : Reach} {b0 : Nat} {t e : TypeId} {v : Value} {d : DataW H} {ps : List MemPlace} {sz : Nat} {Q : List Value → Prop} (hs : 0 < sz) (ht : P.underlying t = some (.slice e)) (hc : P.cellsOf e = sz) (hval : Value.okWide P w r b0 t v) (hw : light P t d)
    (hQ : ∀ (n : Nat) (cs : List Value) (x : DataW H × List MemPlace), cs.length = sz → DataW.trod enc P w 0 (fun _ => true) true n e cs = some x → light P e x.1 → Q cs)
    (h : DataW.Trod enc P w 0 (fun _ => true) true t v d ps) : ∃ (a : Option Addr) (rows : List (List Value)) (c : Nat), v = .slice a rows.length c ∧ rows.length ≤ c ∧ c ≤ maxLen ∧ Rd w a rows.flatten ∧ ∀ r ∈ rows, r.length = sz ∧ Q r := by
  obtain ⟨fuel, hf⟩ := h
  obtain ⟨a0, l0, c0, rfl⟩ := okWide_slice ht hval
  rcases DataW.trod_slice ht hf with ⟨hcs, hx⟩ | ⟨a, len, cap, elems, rest, n, _, hcs, hx, hb, hl, hm, hlen, hel, _, _⟩
  · simp [Value.cells] at hcs
    obtain ⟨rfl, rfl, rfl⟩ := hcs
    exact ⟨none, [], 0, rfl, Nat.le_refl _, Nat.zero_le _, Rd.nil _ _, by simp⟩
  · simp [Value.cells] at hcs
    obtain ⟨rfl, rfl, rfl⟩ := hcs
    have hd : d = .slice (elems.map (·.1)) (rest.map (·.1)) := congrArg Prod.fst hx
    rw [hc] at hel
    have each : ∀ i, i < l0 → ∃ cs, w.cells? 0 (a.add (i * sz)) sz = some cs ∧ Q cs := by
      intro i hi
      have h1 := hel i hi
      obtain ⟨x, hx⟩ : ∃ x, elems[i]? = some x := ⟨elems[i]'(by omega), by simp⟩
      rw [hx, Option.bind_eq_some_iff] at h1
      obtain ⟨cs, h2, h3⟩ := h1
      refine ⟨cs, h2, hQ n cs x (cells_list h2).1 h3 ?_⟩
      rw [hd] at hw
      exact light_elem ht hw (List.mem_map.2 ⟨x, List.mem_of_getElem? hx, rfl⟩)
    have all : ∀ l, l ≤ l0 → ∃ rows : List (List Value), rows.length = l ∧ (∀ i r, rows[i]? = some r → w.cells? 0 (a.add (i * sz)) sz = some r) ∧ ∀ r ∈ rows, Q r := by
      intro l
      induction l with
      | zero => intro _; exact ⟨[], rfl, by simp, by simp⟩
      | succ l ih =>
        intro hl'
        obtain ⟨rows, r1, r2, r3⟩ := ih (by omega)
        obtain ⟨cs, h1, h2⟩ := each l (by omega)
        refine ⟨rows ++ [cs], by simp [r1], fun i r hr => ?_, fun r hr => ?_⟩
        · rcases Nat.lt_or_ge i rows.length with hi | hi
          · rw [List.getElem?_append_left hi] at hr; exact r2 i r hr
          · rw [List.getElem?_append_right hi] at hr
            have : i - rows.length = 0 := by
              rcases Nat.eq_zero_or_pos (i - rows.length) with h | h
              · exact h
              · rw [List.getElem?_eq_none (by simp; omega)] at hr; cases hr
            rw [this] at hr
            simp at hr; subst hr
            have : i = l := by omega
            subst this; exact h1
        · rcases List.mem_append.1 hr with hr | hr
          · exact r3 r hr
          · simp at hr; subst hr; exact h2
    obtain ⟨rows, r1, r2, r3⟩ := all l0 (Nat.le_refl _)
    have hrl : ∀ r ∈ rows, r.length = sz := fun r hr => by
      obtain ⟨i, hi⟩ := List.getElem?_of_mem hr
      exact (cells_list (r2 i r hi)).1
    refine ⟨some a, rows, c0, by rw [r1], by omega, hm, fun j u hj => ⟨a, rfl, ?_⟩, fun r hr => ⟨hrl r hr, r3 r hr⟩⟩
    rw [flatten_at hs hrl, Option.bind_eq_some_iff] at hj
    obtain ⟨r, h1, h2⟩ := hj
    have h3 := (cells_list (r2 _ r h1)).2 (j % sz) (Nat.mod_lt _ hs)
    rw [add_add, h2] at h3
    rw [← h3]
    congr 2
    have := Nat.div_add_mod j sz
    rw [Nat.mul_comm] at this
    exact this.symm
theorem weightsEach_mem {ts : List TypeId} {ds : List (DataW H)} {j : Nat} {t : TypeId} {d : DataW H} (ht : ts[j]? = some t) (hd : ds[j]? = some d) : ∀ n ∈ d.weights P t, n ∈ DataW.weightsEach P ts ds := DataW.weights_mem_each ht hd
/-- a struct's fields, each by its reading, each light -/
theorem fld_of2 {t : TypeId} {l : List (TypeId × Nat)} {n : Nat} {cs : List Value} {x : DataW H × List MemPlace} (hs : structIs P t l = true) (h : DataW.trod enc P w 0 (fun _ => true) true n t cs = some x) (hw : light P t x.1) :
    ∃ m, ∀ (i : Nat) ty off, l[i]? = some (ty, off) → ∃ y, DataW.trod enc P w 0 (fun _ => true) true m ty ((cs.drop off).take (P.cellsOf ty)) = some y ∧ light P ty y.1 := by
  obtain ⟨fs, hu, hl⟩ := struct_of hs
  obtain ⟨xs, m, _, hxe, _, hxl, hx⟩ := DataW.trod_struct hu h
  refine ⟨m, fun i ty off hi => ?_⟩
  rw [← hl, List.getElem?_map] at hi
  cases hf : fs.toList[i]? with
  | none => rw [hf] at hi; cases hi
  | some f =>
    rw [hf] at hi
    cases hi
    have hf' : fs[i]? = some f := by rw [← Array.getElem?_toList]; exact hf
    have hlt := (Array.getElem?_eq_some_iff.1 hf').1
    have := hx i f hf'
    obtain ⟨y, hy⟩ : ∃ y, xs[i]? = some y := ⟨xs[i]'(by omega), by simp⟩
    refine ⟨y, by rw [this, hy], fun k hk => hw k ?_⟩
    have hxa : x.1 = .agg (xs.map (·.1)) := congrArg Prod.fst hxe
    rw [hxa, DataW.weights, hu]
    exact weightsEach_mem (j := i) (by rw [List.getElem?_map, hf]; rfl) (by rw [List.getElem?_map, hy]; rfl) k hk
end
end Go.Sh
