/-
  What an argument weighs, part by part.
-/
import Derived.Test.YtaflmpbeonoilaaShW
import Derived.SizedLaws
import Derived.Test.YtaflmpbeonoilaaRows
import Derived.ProofKit
import Derived.Test.YtaflmpbeonoilaaRmTh
namespace Go.Sh
open Go Go.ChangeShapes Go.WideShapes Go.ChangeAt Go.WideMaps Go.WideElems Go.RowKit
section
variable {H : Type} {enc : TypeId × Value → H} {P : Program} {w : World}
def light (P : Program) (t : TypeId) (d : DataW H) : Prop := ∀ n ∈ d.weights P t, n ≤ reachBytes
theorem light_each {ts : List TypeId} {ds : List (DataW H)} (h : (DataW.weightsEach P ts ds).all (· ≤ reachBytes) = true) {j : Nat} {t : TypeId} {d : DataW H} (ht : ts[j]? = some t) (hd : ds[j]? = some d) : light P t d := fun n hn => by
  have := List.all_eq_true.1 h _ (DataW.weights_mem_each ht hd n hn)
  simpa using this
theorem weightsAll_mem {e : TypeId} : ∀ {ds : List (DataW H)} {d : DataW H}, d ∈ ds → ∀ n ∈ d.weights P e, n ∈ DataW.weightsAll P e ds
  | a :: ds, d, hd, n, hn => by
    rw [DataW.weightsAll, List.mem_append]
    rcases List.mem_cons.1 hd with rfl | hd
    · exact .inl hn
    · exact .inr (weightsAll_mem hd n hn)
theorem light_elem {t e : TypeId} {es sp : List (DataW H)} (ht : P.underlying t = some (.slice e)) (h : light P t (.slice es sp)) {d : DataW H} (hd : d ∈ es) : light P e d := fun n hn => by
  refine h n ?_
  rw [DataW.weights, ht]
  simp only [List.mem_cons, List.mem_append]
  exact .inr (.inl (weightsAll_mem hd n hn))
theorem light_len {t e : TypeId} {es sp : List (DataW H)} (ht : P.underlying t = some (.slice e)) (h : light P t (.slice es sp)) : (es.length + sp.length) * P.bytesOf e ≤ reachBytes := by
  refine h _ ?_
  rw [DataW.weights, ht]
  simp
theorem recs_in2 {r : Reach} {b0 : Nat} {t e : TypeId} {v : Value} {d : DataW H} {ps : List MemPlace} {sz : Nat} {Q : List Value → Prop} (hs : 0 < sz) (ht : P.underlying t = some (.slice e)) (hc : P.cellsOf e = sz) (hval : Value.okWide P w r b0 t v) (hw : light P t d)
    (hQ : ∀ (n : Nat) (cs : List Value) (x : DataW H × List MemPlace), cs.length = sz → DataW.trod enc P w 0 (fun _ => true) true n e cs = some x → light P e x.1 → Q cs)
    (h : DataW.Trod enc P w 0 (fun _ => true) true t v d ps) : ∃ (a : Option Addr) (rows : List (List Value)) (c : Nat), v = .slice a rows.length c ∧ rows.length ≤ c ∧ c ≤ maxLen ∧ Rd w a rows.flatten ∧ ∀ r ∈ rows, r.length = sz ∧ Q r := by
  obtain ⟨fuel, hf⟩ := h
  obtain ⟨a0, l0, c0, rfl⟩ := okWide_slice ht hval
  rcases DataW.trod_slice ht hf with ⟨hcs, hx⟩ | ⟨a, len, cap, elems, rest, n, _, hcs, hx, hb, hl, hm, hlen, hel, _, _⟩
  · simp [Value.cells] at hcs
    obtain ⟨rfl, rfl, rfl⟩ := hcs
    exact ⟨none, [], 0, rfl, Nat.le_refl _, Nat.zero_le _, Rd.nil _ _, by simp⟩
  · simp [Value.cells] at hcs
    obtain ⟨rfl, rfl, rfl⟩ := hcs
    have hd : d = .slice (elems.map (·.1)) (rest.map (·.1)) := congrArg Prod.fst hx
    rw [hc] at hel
    have each : ∀ i, i < l0 → ∃ cs, w.cells? 0 (a.add (i * sz)) sz = some cs ∧ Q cs := by
      intro i hi
      have h1 := hel i hi
      obtain ⟨x, hx⟩ : ∃ x, elems[i]? = some x := ⟨elems[i]'(by omega), by simp⟩
      rw [hx, Option.bind_eq_some_iff] at h1
      obtain ⟨cs, h2, h3⟩ := h1
      refine ⟨cs, h2, hQ n cs x (cells_list h2).1 h3 ?_⟩
      rw [hd] at hw
      exact light_elem ht hw (List.mem_map.2 ⟨x, List.mem_of_getElem? hx, rfl⟩)
    have all : ∀ l, l ≤ l0 → ∃ rows : List (List Value), rows.length = l ∧ (∀ i r, rows[i]? = some r → w.cells? 0 (a.add (i * sz)) sz = some r) ∧ ∀ r ∈ rows, Q r := by
      intro l
      induction l with
      | zero => intro _; exact ⟨[], rfl, by simp, by simp⟩
      | succ l ih =>
        intro hl'
        obtain ⟨rows, r1, r2, r3⟩ := ih (by omega)
        obtain ⟨cs, h1, h2⟩ := each l (by omega)
        refine ⟨rows ++ [cs], by simp [r1], fun i r hr => ?_, fun r hr => ?_⟩
        · rcases Nat.lt_or_ge i rows.length with hi | hi
          · rw [List.getElem?_append_left hi] at hr; exact r2 i r hr
          · rw [List.getElem?_append_right hi] at hr
            have : i - rows.length = 0 := by
              rcases Nat.eq_zero_or_pos (i - rows.length) with h | h
              · exact h
              · rw [List.getElem?_eq_none (by simp; omega)] at hr; cases hr
            rw [this] at hr
            simp at hr; subst hr
            have : i = l := by omega
            subst this; exact h1
        · rcases List.mem_append.1 hr with hr | hr
          · exact r3 r hr
          · simp at hr; subst hr; exact h2
    obtain ⟨rows, r1, r2, r3⟩ := all l0 (Nat.le_refl _)
    have hrl : ∀ r ∈ rows, r.length = sz := fun r hr => by
      obtain ⟨i, hi⟩ := List.getElem?_of_mem hr
      exact (cells_list (r2 i r hi)).1
    refine ⟨some a, rows, c0, by rw [r1], by omega, hm, fun j u hj => ⟨a, rfl, ?_⟩, fun r hr => ⟨hrl r hr, r3 r hr⟩⟩
    rw [flatten_at hs hrl, Option.bind_eq_some_iff] at hj
    obtain ⟨r, h1, h2⟩ := hj
    have h3 := (cells_list (r2 _ r h1)).2 (j % sz) (Nat.mod_lt _ hs)
    rw [add_add, h2] at h3
    rw [← h3]
    congr 2
    have := Nat.div_add_mod j sz
    rw [Nat.mul_comm] at this
    exact this.symm
theorem weightsEach_mem {ts : List TypeId} {ds : List (DataW H)} {j : Nat} {t : TypeId} {d : DataW H} (ht : ts[j]? = some t) (hd : ds[j]? = some d) : ∀ n ∈ d.weights P t, n ∈ DataW.weightsEach P ts ds := DataW.weights_mem_each ht hd
/-- a struct's fields, each by its reading, each light -/
theorem fld_of2 {t : TypeId} {l : List (TypeId × Nat)} {n : Nat} {cs : List Value} {x : DataW H × List MemPlace} (hs : structIs P t l = true) (h : DataW.trod enc P w 0 (fun _ => true) true n t cs = some x) (hw : light P t x.1) :
    ∃ m, ∀ (i : Nat) ty off, l[i]? = some (ty, off) → ∃ y, DataW.trod enc P w 0 (fun _ => true) true m ty ((cs.drop off).take (P.cellsOf ty)) = some y ∧ light P ty y.1 := by
  obtain ⟨fs, hu, hl⟩ := struct_of hs
  obtain ⟨xs, m, _, hxe, _, hxl, hx⟩ := DataW.trod_struct hu h
  refine ⟨m, fun i ty off hi => ?_⟩
  rw [← hl, List.getElem?_map] at hi
  cases hf : fs.toList[i]? with
  | none => rw [hf] at hi; cases hi
  | some f =>
    rw [hf] at hi
    cases hi
    have hf' : fs[i]? = some f := by rw [← Array.getElem?_toList]; exact hf
    have hlt := (Array.getElem?_eq_some_iff.1 hf').1
    have := hx i f hf'
    obtain ⟨y, hy⟩ : ∃ y, xs[i]? = some y := ⟨xs[i]'(by omega), by simp⟩
    refine ⟨y, by rw [this, hy], fun k hk => hw k ?_⟩
    have hxa : x.1 = .agg (xs.map (·.1)) := congrArg Prod.fst hxe
    rw [hxa, DataW.weights, hu]
    exact weightsEach_mem (j := i) (by rw [List.getElem?_map, hf]; rfl) (by rw [List.getElem?_map, hy]; rfl) k hk
end
end Go.Sh
namespace Go.Sh
open Go
section
variable {H : Type} {enc : TypeId × Value → H} {P : Program} {w : World}
/-- a struct's fields, each by its reading, which is a part of the whole's -/
theorem fld_of3 {t : TypeId} {l : List (TypeId × Nat)} {n : Nat} {cs : List Value} {x : DataW H × List MemPlace} (hs : structIs P t l = true) (h : DataW.trod enc P w 0 (fun _ => true) true n t cs = some x) :
    ∃ m parts, x.1 = .agg parts ∧ ∀ (i : Nat) ty off, l[i]? = some (ty, off) → ∃ y, DataW.trod enc P w 0 (fun _ => true) true m ty ((cs.drop off).take (P.cellsOf ty)) = some y ∧ parts[i]? = some y.1 ∧ (light P t x.1 → light P ty y.1) := by
  obtain ⟨fs, hu, hl⟩ := struct_of hs
  obtain ⟨xs, m, _, hxe, _, hxl, hx⟩ := DataW.trod_struct hu h
  have hxa : x.1 = .agg (xs.map (·.1)) := congrArg Prod.fst hxe
  refine ⟨m, xs.map (·.1), hxa, fun i ty off hi => ?_⟩
  rw [← hl, List.getElem?_map] at hi
  cases hf : fs.toList[i]? with
  | none => rw [hf] at hi; cases hi
  | some f =>
    rw [hf] at hi
    cases hi
    have hf' : fs[i]? = some f := by rw [← Array.getElem?_toList]; exact hf
    have hlt := (Array.getElem?_eq_some_iff.1 hf').1
    have := hx i f hf'
    obtain ⟨y, hy⟩ : ∃ y, xs[i]? = some y := ⟨xs[i]'(by omega), by simp⟩
    refine ⟨y, by rw [this, hy], by rw [List.getElem?_map, hy]; rfl, fun hw k hk => hw k ?_⟩
    rw [hxa, DataW.weights, hu]
    exact weightsEach_mem (j := i) (by rw [List.getElem?_map, hf]; rfl) (by rw [List.getElem?_map, hy]; rfl) k hk
/-- a slice of records -/
theorem recs_open3 {t e : TypeId} {sz : Nat} {Q : List Value → Prop} {n : Nat} {cs : List Value} {x : DataW H × List MemPlace} (hs : 0 < sz) (ht : P.underlying t = some (.slice e)) (hc : P.cellsOf e = sz)
    (hQ : ∀ (n : Nat) (r : List Value) (y : DataW H × List MemPlace), r.length = sz → DataW.trod enc P w 0 (fun _ => true) true n e r = some y → (light P t x.1 → light P e y.1) → Q r)
    (h : DataW.trod enc P w 0 (fun _ => true) true n t cs = some x) : ∃ (a : Option Addr) (rows : List (List Value)) (c : Nat), cs = [.slice a rows.length c] ∧ rows.length ≤ c ∧ c ≤ maxLen ∧ (a = none → c = 0) ∧ Rd w a rows.flatten ∧ (∀ r ∈ rows, r.length = sz ∧ Q r) ∧ (rows = [] ∨ ∃ es sp, x.1 = .slice es sp ∧ rows.length ≤ es.length) := by
  rcases DataW.trod_slice ht h with ⟨hcs, hx⟩ | ⟨a, len, cap, elems, rest, n, _, hcs, hx, hb, hl, hm, hlen, hel, _, _⟩
  · exact ⟨none, [], 0, hcs, Nat.le_refl _, Nat.zero_le _, fun _ => rfl, Rd.nil _ _, by simp, .inl rfl⟩
  · have hd : x.1 = .slice (elems.map (·.1)) (rest.map (·.1)) := congrArg Prod.fst hx
    rw [hc] at hel
    have each : ∀ i, i < len → ∃ cs, w.cells? 0 (a.add (i * sz)) sz = some cs ∧ Q cs := by
      intro i hi
      have h1 := hel i hi
      obtain ⟨y, hy⟩ : ∃ y, elems[i]? = some y := ⟨elems[i]'(by omega), by simp⟩
      rw [hy, Option.bind_eq_some_iff] at h1
      obtain ⟨cs, h2, h3⟩ := h1
      refine ⟨cs, h2, hQ n cs y (cells_list h2).1 h3 fun hw => ?_⟩
      rw [hd] at hw
      exact light_elem ht hw (List.mem_map.2 ⟨y, List.mem_of_getElem? hy, rfl⟩)
    have all : ∀ l, l ≤ len → ∃ rows : List (List Value), rows.length = l ∧ (∀ i r, rows[i]? = some r → w.cells? 0 (a.add (i * sz)) sz = some r) ∧ ∀ r ∈ rows, Q r := by
      intro l
      induction l with
      | zero => intro _; exact ⟨[], rfl, by simp, by simp⟩
      | succ l ih =>
        intro hl'
        obtain ⟨rows, r1, r2, r3⟩ := ih (by omega)
        obtain ⟨cs, h1, h2⟩ := each l (by omega)
        refine ⟨rows ++ [cs], by simp [r1], fun i r hr => ?_, fun r hr => ?_⟩
        · rcases Nat.lt_or_ge i rows.length with hi | hi
          · rw [List.getElem?_append_left hi] at hr; exact r2 i r hr
          · rw [List.getElem?_append_right hi] at hr
            have : i - rows.length = 0 := by
              rcases Nat.eq_zero_or_pos (i - rows.length) with h | h
              · exact h
              · rw [List.getElem?_eq_none (by simp; omega)] at hr; cases hr
            rw [this] at hr
            simp at hr; subst hr
            have : i = l := by omega
            subst this; exact h1
        · rcases List.mem_append.1 hr with hr | hr
          · exact r3 r hr
          · simp at hr; subst hr; exact h2
    obtain ⟨rows, r1, r2, r3⟩ := all len (Nat.le_refl _)
    have hrl : ∀ r ∈ rows, r.length = sz := fun r hr => by
      obtain ⟨i, hi⟩ := List.getElem?_of_mem hr
      exact (cells_list (r2 i r hi)).1
    refine ⟨some a, rows, cap, by rw [r1]; exact hcs, by omega, hm, (fun h => by cases h), fun j u hj => ⟨a, rfl, ?_⟩, fun r hr => ⟨hrl r hr, r3 r hr⟩, .inr ⟨_, _, hd, by rw [List.length_map]; omega⟩⟩
    rw [flatten_at hs hrl, Option.bind_eq_some_iff] at hj
    obtain ⟨r, h1, h2⟩ := hj
    have h3 := (cells_list (r2 _ r h1)).2 (j % sz) (Nat.mod_lt _ hs)
    rw [add_add, h2] at h3
    rw [← h3]
    congr 2
    have := Nat.div_add_mod j sz
    rw [Nat.mul_comm] at this
    exact this.symm
theorem flatMap_one {α : Type} (f : α → Value) : ∀ (rs : List α), (rs.flatMap fun x => [f x]) = rs.map f
  | [] => rfl
  | x :: r => by rw [List.flatMap_cons, flatMap_one f r]; rfl
/-- a slice whose elements nobody asks for -/
theorem slc_open {t e : TypeId} {n : Nat} {cs : List Value} {x : DataW H × List MemPlace} (ht : P.underlying t = some (.slice e)) (h : DataW.trod enc P w 0 (fun _ => true) true n t cs = some x) : ∃ a l c, cs = [.slice a l c] := by
  rcases DataW.trod_slice ht h with ⟨hcs, hx⟩ | ⟨a, len, cap, elems, rest, n, _, hcs, _⟩
  · exact ⟨_, _, _, hcs⟩
  · exact ⟨_, _, _, hcs⟩
end
end Go.Sh
namespace Go.Proofs.Ytaflmpbeonoilaa
open Go Go.Sh
open Go.ChangeShapes Go.WideShapes Go.ChangeAt Go.WideMaps Go.WideElems Go.RowKit
set_option maxRecDepth 100000
namespace Row
theorem own : ownKnob Try.prog.godebug = none := by kernel_rfl
theorem laidOut : laidOutB Try.prog = true := by kernel_rfl
theorem u4 : Try.prog.underlying 4 = some .bool := by kernel_rfl
theorem u3 : Try.prog.underlying 3 = some (.int .i64) := by kernel_rfl
theorem u29 : Try.prog.underlying 29 = some (.int .u8) := by kernel_rfl
theorem u31 : Try.prog.underlying 31 = some (.int .u16) := by kernel_rfl
theorem u32 : Try.prog.underlying 32 = some (.slice 154) := by kernel_rfl
theorem u33 : Try.prog.underlying 33 = some (.slice 30) := by kernel_rfl
theorem u34 : Try.prog.underlying 34 = some (.slice 156) := by kernel_rfl
theorem u45 : Try.prog.underlying 45 = some (.slice 36) := by kernel_rfl
theorem u53 : Try.prog.underlying 53 = some (.slice 59) := by kernel_rfl
theorem c29 : Try.prog.cellsOf 29 = 1 := by kernel_rfl
theorem c3 : Try.prog.cellsOf 3 = 1 := by kernel_rfl
theorem c5 : Try.prog.cellsOf 5 = 1 := by kernel_rfl
theorem c30 : Try.prog.cellsOf 30 = 1 := by kernel_rfl
theorem c31 : Try.prog.cellsOf 31 = 1 := by kernel_rfl
theorem c32 : Try.prog.cellsOf 32 = 1 := by kernel_rfl
theorem c33 : Try.prog.cellsOf 33 = 1 := by kernel_rfl
theorem c22 : Try.prog.cellsOf 22 = 1 := by kernel_rfl
theorem c34 : Try.prog.cellsOf 34 = 1 := by kernel_rfl
theorem c36 : Try.prog.cellsOf 36 = 15 := by kernel_rfl
theorem c59 : Try.prog.cellsOf 59 = 17 := by kernel_rfl
theorem s36 : structIs Try.prog 36 [(29, 0), (5, 1), (30, 2), (31, 3), (31, 4), (30, 5), (30, 6), (30, 7), (31, 8), (31, 9), (32, 10), (32, 11), (33, 12), (22, 13), (34, 14)] = true := by kernel_rfl
theorem s59 : structIs Try.prog 59 [(3, 0), (36, 1), (30, 16)] = true := by kernel_rfl
end Row
section
variable {H : Type} {enc : TypeId × Value → H} {w : World}
/-- a chunk handed in: its bytes can be read -/
structure HcOk (w : World) (x : R35) (b : List Int) : Prop where
  rd : Rd w x.f13a (inV .u8 b)
  len : x.f13n = b.length
  ck : CkOk ⟨x, b⟩
  by8 : ∀ v ∈ b, 0 ≤ v ∧ v < 256
theorem chunk_open {n : Nat} {cs : List Value} {x : DataW H × List MemPlace} (hl : cs.length = 15) (h : DataW.trod enc Try.prog w 0 (fun _ => true) true n 36 cs = some x) :
    ∃ (s : R35) (b : List Int), cs = s.l ∧ HcOk w s b := by
  obtain ⟨m, hf⟩ := fld_of Row.s36 h
  match cs, hl with
  | [c0, c1, c2, c3, c4, c5, c6, c7, c8, c9, c10, c11, c12, c13, c14], _ =>
    obtain ⟨y0, h0⟩ := hf 0 29 0 rfl
    obtain ⟨y1, h1⟩ := hf 1 5 1 rfl
    obtain ⟨y2, h2⟩ := hf 2 30 2 rfl
    obtain ⟨y3, h3⟩ := hf 3 31 3 rfl
    obtain ⟨y4, h4⟩ := hf 4 31 4 rfl
    obtain ⟨y5, h5⟩ := hf 5 30 5 rfl
    obtain ⟨y6, h6⟩ := hf 6 30 6 rfl
    obtain ⟨y7, h7⟩ := hf 7 30 7 rfl
    obtain ⟨y8, h8⟩ := hf 8 31 8 rfl
    obtain ⟨y9, h9⟩ := hf 9 31 9 rfl
    obtain ⟨y10, h10⟩ := hf 10 32 10 rfl
    obtain ⟨y11, h11⟩ := hf 11 32 11 rfl
    obtain ⟨y12, h12⟩ := hf 12 33 12 rfl
    obtain ⟨y13, h13⟩ := hf 13 22 13 rfl
    obtain ⟨y14, h14⟩ := hf 14 34 14 rfl
    rw [Row.c29] at h0
    rw [Row.c5] at h1
    rw [Row.c30] at h2 h5 h6 h7
    rw [Row.c31] at h3 h4 h8 h9
    rw [Row.c32] at h10 h11
    rw [Row.c33] at h12
    rw [Row.c22] at h13
    rw [Row.c34] at h14
    obtain ⟨k0, e0, _, _⟩ := DataW.trod_int Row.u29 h0
    obtain ⟨k1, e1, _, _⟩ := DataW.trod_int u5 h1
    obtain ⟨k2, e2, _, w2⟩ := DataW.trod_int u30 h2
    obtain ⟨k3, e3, _, w3⟩ := DataW.trod_int Row.u31 h3
    obtain ⟨k4, e4, _, _⟩ := DataW.trod_int Row.u31 h4
    obtain ⟨k5, e5, _, _⟩ := DataW.trod_int u30 h5
    obtain ⟨k6, e6, _, _⟩ := DataW.trod_int u30 h6
    obtain ⟨k7, e7, _, _⟩ := DataW.trod_int u30 h7
    obtain ⟨k8, e8, _, _⟩ := DataW.trod_int Row.u31 h8
    obtain ⟨k9, e9, _, _⟩ := DataW.trod_int Row.u31 h9
    obtain ⟨a10, l10, q10, e10⟩ := slc_open Row.u32 h10
    obtain ⟨a11, l11, q11, e11⟩ := slc_open Row.u32 h11
    obtain ⟨a12, l12, q12, e12⟩ := slc_open Row.u33 h12
    obtain ⟨a13, X, q13, e13, _, _, _, hr, hX, _⟩ := ints_open u22 u5 Row.c5 h13
    obtain ⟨a14, l14, q14, e14⟩ := slc_open Row.u34 h14
    simp at e0 e1 e2 e3 e4 e5 e6 e7 e8 e9 e10 e11 e12 e13 e14
    subst e0; subst e1; subst e2; subst e3; subst e4; subst e5; subst e6; subst e7; subst e8; subst e9; subst e10; subst e11; subst e12; subst e13; subst e14
    have w2 := wf_u32 w2
    have w3 := wf_u16 w3
    exact ⟨⟨k0, k1, k2, k3, k4, k5, k6, k7, k8, k9, a10, l10, q10, a11, l11, q11, a12, l12, q12, a13, X.length, q13, a14, l14, q14⟩, X, rfl, hr, rfl, ⟨w2, by show 0 ≤ k3 ∧ k3 < 65536; omega⟩, fun v hv => wf_u8 (hX v hv)⟩
/-- an operation -/
structure Ox where
  k : Int
  x : R35
  b : List Int
  t : Int
def Ox.r (o : Ox) : R58 := ⟨o.k, o.x.f0, o.x.f1, o.x.f2, o.x.f3, o.x.f4, o.x.f5, o.x.f6, o.x.f7, o.x.f8, o.x.f9, o.x.f10a, o.x.f10n, o.x.f10c, o.x.f11a, o.x.f11n, o.x.f11c, o.x.f12a, o.x.f12n, o.x.f12c, o.x.f13a, o.x.f13n, o.x.f13c, o.x.f14a, o.x.f14n, o.x.f14c, o.t⟩
theorem Ox.r_opR (o : Ox) : opR o.r = o.x := rfl
theorem Ox.r_l (o : Ox) : o.r.l = .int .i64 o.k :: (o.x.l ++ [.int .u32 o.t]) := rfl
structure OxOk (w : World) (o : Ox) : Prop extends HcOk w o.x o.b where
  t : 0 ≤ o.t ∧ o.t < 4294967296
theorem op_open {n : Nat} {cs : List Value} {x : DataW H × List MemPlace} (hl : cs.length = 17) (h : DataW.trod enc Try.prog w 0 (fun _ => true) true n 59 cs = some x) : ∃ o : Ox, cs = o.r.l ∧ OxOk w o := by
  obtain ⟨m, hf⟩ := fld_of Row.s59 h
  obtain ⟨y0, h0⟩ := hf 0 3 0 rfl
  obtain ⟨y1, h1⟩ := hf 1 36 1 rfl
  obtain ⟨y2, h2⟩ := hf 2 30 16 rfl
  rw [Row.c3] at h0
  rw [Row.c36] at h1
  rw [Row.c30] at h2
  obtain ⟨k0, e0, _, _⟩ := DataW.trod_int Row.u3 h0
  obtain ⟨s, b, e1, hk⟩ := chunk_open (by rw [List.length_take, List.length_drop, hl]; rfl) h1
  obtain ⟨k2, e2, _, w2⟩ := DataW.trod_int u30 h2
  refine ⟨⟨k0, s, b, k2⟩, ?_, hk, wf_u32 w2⟩
  match cs, hl with
  | [c0, c1, c2, c3, c4, c5, c6, c7, c8, c9, c10, c11, c12, c13, c14, c15, c16], _ =>
    simp at e0 e2
    have f1 : [c1, c2, c3, c4, c5, c6, c7, c8, c9, c10, c11, c12, c13, c14, c15] = s.l := e1
    subst e0; subst e2
    show _ :: ([c1, c2, c3, c4, c5, c6, c7, c8, c9, c10, c11, c12, c13, c14, c15] ++ [_]) = _
    rw [f1]
    rfl
theorem op_in {r : Reach} {b0 : Nat} {v : Value} {d : DataW H} {ps : List MemPlace} (hval : Value.okWide Try.prog w r b0 59 v) (h : DataW.Trod enc Try.prog w 0 (fun _ => true) true 59 v d ps) : ∃ o : Ox, v = o.r.v ∧ OxOk w o := by
  obtain ⟨fs, hu, _⟩ := struct_of Row.s59
  obtain ⟨cs, rfl, hsz⟩ := okWide_struct hu hval
  rw [Row.c59] at hsz
  obtain ⟨fuel, hf⟩ := h
  obtain ⟨o, ho, hk⟩ := op_open (w := w) (enc := enc) (n := fuel) (cs := cs.toList) (x := (d, ps)) (by simpa using hsz) hf
  refine ⟨o, ?_, hk⟩
  unfold R58.v
  congr 1
  apply Array.toList_inj.1
  rw [ho]
  rfl
end
open Row (own laidOut u4 u3)
end Go.Proofs.Ytaflmpbeonoilaa
namespace Go.Proofs.Ytaflmpbeonoilaa
open Go Go.Sh
open Go.ChangeShapes Go.WideShapes Go.ChangeAt Go.WideMaps Go.WideElems Go.RowKit
set_option maxRecDepth 100000
namespace Row
theorem u49 : Try.prog.underlying 49 = some (.slice 39) := by kernel_rfl
theorem u46 : Try.prog.underlying 46 = some (.slice 31) := by kernel_rfl
theorem c39 : Try.prog.cellsOf 39 = 5 := by kernel_rfl
theorem c4 : Try.prog.cellsOf 4 = 1 := by kernel_rfl
theorem s39 : structIs Try.prog 39 [(31, 0), (31, 1), (30, 2), (4, 3), (22, 4)] = true := by kernel_rfl
end Row
section
variable {H : Type} {enc : TypeId × Value → H} {w : World}
theorem em_open {n : Nat} {cs : List Value} {x : DataW H × List MemPlace} (hl : cs.length = 5) (h : DataW.trod enc Try.prog w 0 (fun _ => true) true n 39 cs = some x) : ∃ e : Em, cs = e.rc.l ∧ EmRaw w e := by
  obtain ⟨m, hf⟩ := fld_of Row.s39 h
  match cs, hl with
  | [c0, c1, c2, c3, c4], _ =>
    obtain ⟨y0, h0⟩ := hf 0 31 0 rfl
    obtain ⟨y1, h1⟩ := hf 1 31 1 rfl
    obtain ⟨y2, h2⟩ := hf 2 30 2 rfl
    obtain ⟨y3, h3⟩ := hf 3 4 3 rfl
    obtain ⟨y4, h4⟩ := hf 4 22 4 rfl
    rw [Row.c31] at h0 h1
    rw [Row.c30] at h2
    rw [Row.c4] at h3
    rw [Row.c22] at h4
    obtain ⟨k0, e0, _, w0⟩ := DataW.trod_int Row.u31 h0
    obtain ⟨k1, e1, _, _⟩ := DataW.trod_int Row.u31 h1
    obtain ⟨k2, e2, _, _⟩ := DataW.trod_int u30 h2
    obtain ⟨k3, e3, _⟩ := DataW.trod_bool Row.u4 h3
    obtain ⟨a4, X, q4, e4, hc, _, _, hr, hX, _⟩ := ints_open u22 u5 Row.c5 h4
    simp at e0 e1 e2 e3 e4
    subst e0; subst e1; subst e2; subst e3; subst e4
    have w0 := wf_u16 w0
    exact ⟨⟨a4, q4, ⟨k0, k1, k2, k3, X⟩⟩, rfl, hr, hc, fun v hv => wf_u8 (hX v hv), by show 0 ≤ k0 ∧ k0 < 65536; omega⟩
theorem ems_in {r : Reach} {b0 : Nat} {v : Value} {d : DataW H} {ps : List MemPlace} (hval : Value.okWide Try.prog w r b0 49 v) (h : DataW.Trod enc Try.prog w 0 (fun _ => true) true 49 v d ps) :
    ∃ a c, ∃ ems : List Em, v = .slice a ems.length c ∧ ems.length ≤ 9223372036854775807 ∧ Rd w a (msV ems) ∧ ∀ e ∈ ems, EmRaw w e := by
  obtain ⟨a, rows, c, rfl, hc, hm, hr, hQ⟩ := recs_in (sz := 5) (Q := fun r => ∃ e : Em, r = e.rc.l ∧ EmRaw w e) (by decide) Row.u49 Row.c39 hval (fun n cs x hl h => em_open hl h) h
  obtain ⟨ems, hl, hfl, hok⟩ := recs_of rows fun r hr => (hQ r hr).2
  rw [hfl] at hr
  exact ⟨a, c, ems, by rw [hl], by unfold maxLen at hm; omega, hr, hok⟩
end
end Go.Proofs.Ytaflmpbeonoilaa
