/-
  Arguments that were handed in: slices of whole numbers, slices of records.
-/
import Derived.Test.YtaflmpbeonoilaaShL
import Derived.ProofKit
import Derived.OpenShut
namespace Go.Sh
open Go
open Go.ChangeShapes Go.WideShapes Go.ChangeAt Go.WideMaps Go.WideElems Go.RowKit
/-- a slice of whole numbers that was handed in -/
theorem ints_in {H : Type} {r : Reach} {b0 : Nat} {enc : TypeId × Value → H} {P : Program} {w : World} {t e : TypeId} {k : IntKind} {v : Value} {d : DataW H} {ps : List MemPlace} (ht : P.underlying t = some (.slice e)) (he : P.underlying e = some (.int k)) (hc : P.cellsOf e = 1) (hval : Value.okWide P w r b0 t v)
    (h : DataW.Trod enc P w 0 (fun _ => true) true t v d ps) : ∃ (a : Option Addr) (X : List Int) (c : Nat), v = .slice a X.length c ∧ X.length ≤ c ∧ c ≤ maxLen ∧ Rd w a (X.map (Value.int k)) ∧ ∀ x ∈ X, (Lit.int k x).wf = true := by
  obtain ⟨fuel, hf⟩ := h
  obtain ⟨a0, l0, c0, rfl⟩ := okWide_slice ht hval
  rcases open_ints ht he hc hf with ⟨hcs, hx⟩ | ⟨a, len, cap, zs, hcs, _, hl, hm, hz, hx, hcl, hwz⟩
  · simp [Value.cells] at hcs
    obtain ⟨rfl, rfl, rfl⟩ := hcs
    exact ⟨none, [], 0, rfl, Nat.le_refl _, Nat.zero_le _, Rd.nil _ _, by simp⟩
  · simp [Value.cells] at hcs
    obtain ⟨rfl, rfl, rfl⟩ := hcs
    simp only [if_true] at hz
    have hlen : (zs.take l0).length = l0 := by rw [List.length_take]; omega
    refine ⟨some a, zs.take l0, c0, by rw [hlen], by omega, hm, fun j u hj => ⟨a, rfl, ?_⟩, fun x hx => hwz x (List.mem_of_mem_take hx)⟩
    rw [List.getElem?_map, List.getElem?_take] at hj
    split at hj
    · rename_i hjl
      obtain ⟨x, hx⟩ : ∃ x, zs[j]? = some x := ⟨zs[j]'(by omega), by simp⟩
      rw [hx] at hj
      cases hj
      have := hcl j (by omega)
      rw [List.getD_eq_getElem?_getD, hx] at this
      exact this
    · cases hj
theorem wf_u16 {x : Int} (h : (Lit.int .u16 x).wf = true) : 0 ≤ x ∧ x ≤ 65535 := by
  simp [Lit.wf, IntKind.min, IntKind.max, IntKind.signed, IntKind.bits] at h; omega
theorem wf_u32 {x : Int} (h : (Lit.int .u32 x).wf = true) : 0 ≤ x ∧ x < 4294967296 := by
  simp [Lit.wf, IntKind.min, IntKind.max, IntKind.signed, IntKind.bits] at h; omega

theorem cells_list {w : World} {base : Nat} {a : Addr} {n : Nat} {cs : List Value} (h : w.cells? base a n = some cs) : cs.length = n ∧ ∀ (i : Nat), i < n → w.cell? (a.add i) = cs[i]? := by
  unfold World.cells? at h
  split at h
  · have key : ∀ (l : List Nat) (cs : List Value), l.mapM (fun i => w.cell? (a.add i)) = some cs → cs.length = l.length ∧ ∀ (i k : Nat), l[i]? = some k → w.cell? (a.add k) = cs[i]? := by
      intro l
      induction l with
      | nil => intro cs h; simp at h; subst h; simp
      | cons x l ih =>
        intro cs h
        simp only [List.mapM_cons, Option.bind_eq_bind, Option.bind_eq_some_iff] at h
        obtain ⟨v, hv, r, hr, e⟩ := h
        cases e
        obtain ⟨i1, i2⟩ := ih r hr
        refine ⟨by simp [i1], fun i k hk => ?_⟩
        cases i with
        | zero => simp at hk; subst hk; simpa using hv
        | succ i => simp at hk; simpa using i2 i k hk
    obtain ⟨k1, k2⟩ := key _ _ h
    exact ⟨by simpa using k1, fun i hi => k2 i i (by simp [hi])⟩
  · cases h
theorem flatten_at {sz : Nat} (hs : 0 < sz) : ∀ {rows : List (List Value)}, (∀ r ∈ rows, r.length = sz) → ∀ (j : Nat), rows.flatten[j]? = (rows[j / sz]?).bind (·[j % sz]?)
  | [], _, j => by simp
  | r :: rows, h, j => by
    have hr := h r (by simp)
    rw [List.flatten_cons]
    by_cases hj : j < sz
    · rw [List.getElem?_append_left (by omega), Nat.div_eq_of_lt hj, Nat.mod_eq_of_lt hj]; rfl
    · have ih := flatten_at hs (rows := rows) (fun q hq => h q (List.mem_cons_of_mem _ hq)) (j - sz)
      rw [List.getElem?_append_right (by omega), hr, ih]
      have e1 : j / sz = (j - sz) / sz + 1 := by rw [Nat.div_eq_sub_div hs (by omega)]
      have e2 : j % sz = (j - sz) % sz := Nat.mod_eq_sub_mod (by omega)
      rw [e1, e2]; rfl
/-- a slice of records that was handed in; Q: what each record's cells are, by their reading -/
theorem recs_in {H : Type} {r : Reach} {b0 : Nat} {enc : TypeId × Value → H} {P : Program} {w : World} {t e : TypeId} {v : Value} {d : DataW H} {ps : List MemPlace} {sz : Nat} {Q : List Value → Prop} (hs : 0 < sz) (ht : P.underlying t = some (.slice e)) (hc : P.cellsOf e = sz) (hval : Value.okWide P w r b0 t v)
    (hQ : ∀ (n : Nat) (cs : List Value) (x : DataW H × List MemPlace), cs.length = sz → DataW.trod enc P w 0 (fun _ => true) true n e cs = some x → Q cs)
    (h : DataW.Trod enc P w 0 (fun _ => true) true t v d ps) : ∃ (a : Option Addr) (rows : List (List Value)) (c : Nat), v = .slice a rows.length c ∧ rows.length ≤ c ∧ c ≤ maxLen ∧ Rd w a rows.flatten ∧ ∀ r ∈ rows, r.length = sz ∧ Q r := by
  obtain ⟨fuel, hf⟩ := h
  obtain ⟨a0, l0, c0, rfl⟩ := okWide_slice ht hval
  rcases DataW.trod_slice ht hf with ⟨hcs, hx⟩ | ⟨a, len, cap, elems, rest, n, _, hcs, hx, hb, hl, hm, hlen, hel, _, _⟩
  · simp [Value.cells] at hcs
    obtain ⟨rfl, rfl, rfl⟩ := hcs
    exact ⟨none, [], 0, rfl, Nat.le_refl _, Nat.zero_le _, Rd.nil _ _, by simp⟩
  · simp [Value.cells] at hcs
    obtain ⟨rfl, rfl, rfl⟩ := hcs
    rw [hc] at hel
    have each : ∀ i, i < l0 → ∃ cs, w.cells? 0 (a.add (i * sz)) sz = some cs ∧ Q cs := by
      intro i hi
      have h1 := hel i hi
      obtain ⟨x, hx⟩ : ∃ x, elems[i]? = some x := ⟨elems[i]'(by omega), by simp⟩
      rw [hx, Option.bind_eq_some_iff] at h1
      obtain ⟨cs, h2, h3⟩ := h1
      exact ⟨cs, h2, hQ n cs x (cells_list h2).1 h3⟩
    have all : ∀ l, l ≤ l0 → ∃ rows : List (List Value), rows.length = l ∧ (∀ i r, rows[i]? = some r → w.cells? 0 (a.add (i * sz)) sz = some r) ∧ ∀ r ∈ rows, Q r := by
      intro l
      induction l with
      | zero => intro _; exact ⟨[], rfl, by simp, by simp⟩
      | succ l ih =>
        intro hl'
        obtain ⟨rows, r1, r2, r3⟩ := ih (by omega)
        obtain ⟨cs, h1, h2⟩ := each l (by omega)
        refine ⟨rows ++ [cs], by simp [r1], fun i r hr => ?_, fun r hr => ?_⟩
        · rcases Nat.lt_or_ge i rows.length with hi | hi
          · rw [List.getElem?_append_left hi] at hr; exact r2 i r hr
          · rw [List.getElem?_append_right hi] at hr
            have : i - rows.length = 0 := by
              rcases Nat.eq_zero_or_pos (i - rows.length) with h | h
              · exact h
              · rw [List.getElem?_eq_none (by simp; omega)] at hr; cases hr
            rw [this] at hr
            simp at hr; subst hr
            have : i = l := by omega
            subst this; exact h1
        · rcases List.mem_append.1 hr with hr | hr
          · exact r3 r hr
          · simp at hr; subst hr; exact h2
    obtain ⟨rows, r1, r2, r3⟩ := all l0 (Nat.le_refl _)
    have hrl : ∀ r ∈ rows, r.length = sz := fun r hr => by
      obtain ⟨i, hi⟩ := List.getElem?_of_mem hr
      exact (cells_list (r2 i r hi)).1
    refine ⟨some a, rows, c0, by rw [r1], by omega, hm, fun j u hj => ⟨a, rfl, ?_⟩, fun r hr => ⟨hrl r hr, r3 r hr⟩⟩
    rw [flatten_at hs hrl, Option.bind_eq_some_iff] at hj
    obtain ⟨r, h1, h2⟩ := hj
    have h3 := (cells_list (r2 _ r h1)).2 (j % sz) (Nat.mod_lt _ hs)
    rw [add_add, h2] at h3
    rw [← h3]
    congr 2
    have := Nat.div_add_mod j sz
    rw [Nat.mul_comm] at this
    exact this.symm
/-- a struct's fields: their types and places -/
def structIs (P : Program) (t : TypeId) (l : List (TypeId × Nat)) : Bool :=
  match P.underlying t with
  | some (.struct fs) => decide (fs.toList.map (fun f => (f.type, f.offset)) = l)
  | _ => false
theorem struct_of {P : Program} {t : TypeId} {l : List (TypeId × Nat)} (h : structIs P t l = true) : ∃ fs, P.underlying t = some (.struct fs) ∧ fs.toList.map (fun f => (f.type, f.offset)) = l := by
  unfold structIs at h
  split at h
  · rename_i fs e
    exact ⟨fs, e, of_decide_eq_true h⟩
  · cases h
theorem struct2_of {P : Program} {t a b : TypeId} {i j : Nat} (h : structIs P t [(a, i), (b, j)] = true) : ∃ f0 f1, P.underlying t = some (.struct #[f0, f1]) ∧ f0.offset = i ∧ f1.offset = j ∧ f0.type = a ∧ f1.type = b := by
  obtain ⟨fs, h1, h2⟩ := struct_of h
  obtain ⟨l⟩ := fs
  match l, h2 with
  | [f0, f1], h2 =>
    simp at h2
    exact ⟨f0, f1, h1, h2.1.2, h2.2.2, h2.1.1, h2.2.1⟩
theorem struct3_of {P : Program} {t a b c : TypeId} {i j k : Nat} (h : structIs P t [(a, i), (b, j), (c, k)] = true) : ∃ f0 f1 f2, P.underlying t = some (.struct #[f0, f1, f2]) ∧ f0.offset = i ∧ f1.offset = j ∧ f2.offset = k ∧ f0.type = a ∧ f1.type = b ∧ f2.type = c := by
  obtain ⟨fs, h1, h2⟩ := struct_of h
  obtain ⟨l⟩ := fs
  match l, h2 with
  | [f0, f1, f2], h2 =>
    simp at h2
    exact ⟨f0, f1, f2, h1, h2.1.2, h2.2.1.2, h2.2.2.2, h2.1.1, h2.2.1.1, h2.2.2.1⟩
end Go.Sh
