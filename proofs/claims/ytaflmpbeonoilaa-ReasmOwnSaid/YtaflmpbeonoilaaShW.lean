/-
  Arguments that were handed in: slices of whole numbers within records, records field by field.
-/
import Derived.Test.YtaflmpbeonoilaaShR
namespace Go.Sh
open Go
open Go.ChangeShapes Go.WideShapes Go.ChangeAt Go.WideMaps Go.WideElems Go.RowKit
section
variable {H : Type} {enc : TypeId × Value → H} {P : Program} {w : World}
theorem lits_length (k : IntKind) (l : List Int) : (lits (H := H) k l).length = l.length := by simp [lits]
theorem ints_open {t e : TypeId} {k : IntKind} {n : Nat} {cs : List Value} {x : DataW H × List MemPlace} (ht : P.underlying t = some (.slice e)) (he : P.underlying e = some (.int k)) (hc : P.cellsOf e = 1)
    (h : DataW.trod enc P w 0 (fun _ => true) true n t cs = some x) : ∃ (a : Option Addr) (X : List Int) (c : Nat), cs = [.slice a X.length c] ∧ X.length ≤ c ∧ c ≤ maxLen ∧ (a = none → c = 0) ∧ Rd w a (X.map (Value.int k)) ∧ (∀ x ∈ X, (Lit.int k x).wf = true) ∧ (X = [] ∨ ∃ es sp, x.1 = .slice es sp ∧ X.length ≤ es.length + sp.length) := by
  rcases open_ints ht he hc h with ⟨hcs, hx⟩ | ⟨a, len, cap, zs, hcs, _, hl, hm, hz, hx, hcl, hwz⟩
  · exact ⟨none, [], 0, hcs, Nat.le_refl _, Nat.zero_le _, fun _ => rfl, Rd.nil _ _, by simp, .inl rfl⟩
  · simp only [if_true] at hz
    have hlen : (zs.take len).length = len := by rw [List.length_take]; omega
    refine ⟨some a, zs.take len, cap, by rw [hlen]; exact hcs, by omega, hm, (fun h => by cases h), fun j u hj => ⟨a, rfl, ?_⟩, fun x hx => hwz x (List.mem_of_mem_take hx), .inr ⟨_, _, by rw [hx], by rw [lits_length]; omega⟩⟩
    rw [List.getElem?_map, List.getElem?_take] at hj
    split at hj
    · rename_i hjl
      obtain ⟨x, hx⟩ : ∃ x, zs[j]? = some x := ⟨zs[j]'(by omega), by simp⟩
      rw [hx] at hj
      cases hj
      have := hcl j (by omega)
      rw [List.getD_eq_getElem?_getD, hx] at this
      exact this
    · cases hj
theorem ints_in2 {r : Reach} {b0 : Nat} {t e : TypeId} {k : IntKind} {v : Value} {d : DataW H} {ps : List MemPlace} (ht : P.underlying t = some (.slice e)) (he : P.underlying e = some (.int k)) (hc : P.cellsOf e = 1) (hval : Value.okWide P w r b0 t v)
    (h : DataW.Trod enc P w 0 (fun _ => true) true t v d ps) : ∃ (a : Option Addr) (X : List Int) (c : Nat), v = .slice a X.length c ∧ X.length ≤ c ∧ c ≤ maxLen ∧ (a = none → c = 0) ∧ Rd w a (X.map (Value.int k)) ∧ (∀ x ∈ X, (Lit.int k x).wf = true) ∧ (X = [] ∨ ∃ es sp, d = .slice es sp ∧ X.length ≤ es.length + sp.length) := by
  obtain ⟨fuel, hf⟩ := h
  obtain ⟨a0, l0, c0, rfl⟩ := okWide_slice ht hval
  obtain ⟨a, X, c, h1, h2⟩ := ints_open ht he hc hf
  simp [Value.cells] at h1
  obtain ⟨rfl, rfl, rfl⟩ := h1
  exact ⟨_, X, _, rfl, h2⟩
/-- a struct's fields, each by its reading -/
theorem fld_of {t : TypeId} {l : List (TypeId × Nat)} {n : Nat} {cs : List Value} {x : DataW H × List MemPlace} (hs : structIs P t l = true) (h : DataW.trod enc P w 0 (fun _ => true) true n t cs = some x) :
    ∃ m, ∀ (i : Nat) ty off, l[i]? = some (ty, off) → ∃ y, DataW.trod enc P w 0 (fun _ => true) true m ty ((cs.drop off).take (P.cellsOf ty)) = some y := by
  obtain ⟨fs, hu, hl⟩ := struct_of hs
  obtain ⟨xs, m, _, _, _, hxl, hx⟩ := DataW.trod_struct hu h
  refine ⟨m, fun i ty off hi => ?_⟩
  rw [← hl, List.getElem?_map] at hi
  cases hf : fs.toList[i]? with
  | none => rw [hf] at hi; cases hi
  | some f =>
    rw [hf] at hi
    cases hi
    have hf' : fs[i]? = some f := by rw [← Array.getElem?_toList]; exact hf
    have hlt := (Array.getElem?_eq_some_iff.1 hf').1
    have := hx i f hf'
    obtain ⟨y, hy⟩ : ∃ y, xs[i]? = some y := ⟨xs[i]'(by omega), by simp⟩
    exact ⟨y, by rw [this, hy]⟩
theorem recs_of {α : Type} {f : α → List Value} {ok : α → Prop} : ∀ (rows : List (List Value)), (∀ r ∈ rows, ∃ q, r = f q ∧ ok q) → ∃ l : List α, l.length = rows.length ∧ rows.flatten = l.flatMap f ∧ ∀ q ∈ l, ok q
  | [], _ => ⟨[], rfl, rfl, by simp⟩
  | r :: rows, h => by
    obtain ⟨l, h1, h2, h3⟩ := recs_of rows fun q hq => h q (List.mem_cons_of_mem _ hq)
    obtain ⟨q, rfl, hq⟩ := h r List.mem_cons_self
    refine ⟨q :: l, by simp [h1], by rw [List.flatten_cons, h2]; rfl, fun x hx => ?_⟩
    rcases List.mem_cons.1 hx with rfl | hx
    · exact hq
    · exact h3 x hx
theorem wf_u8 {x : Int} (h : (Lit.int .u8 x).wf = true) : 0 ≤ x ∧ x < 256 := by
  simp [Lit.wf, IntKind.min, IntKind.max, IntKind.signed, IntKind.bits] at h; omega
theorem wf_i64 {x : Int} (h : (Lit.int .i64 x).wf = true) : -9223372036854775808 ≤ x ∧ x ≤ 9223372036854775807 := by
  simp [Lit.wf, IntKind.min, IntKind.max, IntKind.signed, IntKind.bits] at h; omega
end
end Go.Sh
