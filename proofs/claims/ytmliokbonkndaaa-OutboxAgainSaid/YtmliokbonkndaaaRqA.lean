/-
  What was handed in, opened part by part with its reading.
-/
import Derived.Test.YtmliokbonkndaaaShY
import Derived.Test.YtmliokbonkndaaaObW
import Derived.Test.YtmliokbonkndaaaRows
import Derived.ProofKit
import Derived.SizedLaws
namespace Go.Sh
open Go
section
variable {H : Type} {enc : TypeId × Value → H} {P : Program} {w : World}
/-- a struct's fields, each by its reading, which is a part of the whole's -/
theorem fld_of3 {t : TypeId} {l : List (TypeId × Nat)} {n : Nat} {cs : List Value} {x : DataW H × List MemPlace} (hs : structIs P t l = true) (h : DataW.trod enc P w 0 (fun _ => true) true n t cs = some x) :
    ∃ m parts, x.1 = .agg parts ∧ ∀ (i : Nat) ty off, l[i]? = some (ty, off) → ∃ y, DataW.trod enc P w 0 (fun _ => true) true m ty ((cs.drop off).take (P.cellsOf ty)) = some y ∧ parts[i]? = some y.1 ∧ (light P t x.1 → light P ty y.1) := by
  obtain ⟨fs, hu, hl⟩ := struct_of hs
  obtain ⟨xs, m, _, hxe, _, hxl, hx⟩ := DataW.trod_struct hu h
  have hxa : x.1 = .agg (xs.map (·.1)) := congrArg Prod.fst hxe
  refine ⟨m, xs.map (·.1), hxa, fun i ty off hi => ?_⟩
  rw [← hl, List.getElem?_map] at hi
  cases hf : fs.toList[i]? with
  | none => rw [hf] at hi; cases hi
  | some f =>
    rw [hf] at hi
    cases hi
    have hf' : fs[i]? = some f := by rw [← Array.getElem?_toList]; exact hf
    have hlt := (Array.getElem?_eq_some_iff.1 hf').1
    have := hx i f hf'
    obtain ⟨y, hy⟩ : ∃ y, xs[i]? = some y := ⟨xs[i]'(by omega), by simp⟩
    refine ⟨y, by rw [this, hy], by rw [List.getElem?_map, hy]; rfl, fun hw k hk => hw k ?_⟩
    rw [hxa, DataW.weights, hu]
    exact weightsEach_mem (j := i) (by rw [List.getElem?_map, hf]; rfl) (by rw [List.getElem?_map, hy]; rfl) k hk
/-- a slice of records -/
theorem recs_open3 {t e : TypeId} {sz : Nat} {Q : List Value → Prop} {n : Nat} {cs : List Value} {x : DataW H × List MemPlace} (hs : 0 < sz) (ht : P.underlying t = some (.slice e)) (hc : P.cellsOf e = sz)
    (hQ : ∀ (n : Nat) (r : List Value) (y : DataW H × List MemPlace), r.length = sz → DataW.trod enc P w 0 (fun _ => true) true n e r = some y → (light P t x.1 → light P e y.1) → Q r)
    (h : DataW.trod enc P w 0 (fun _ => true) true n t cs = some x) : ∃ (a : Option Addr) (rows : List (List Value)) (c : Nat), cs = [.slice a rows.length c] ∧ rows.length ≤ c ∧ c ≤ maxLen ∧ (a = none → c = 0) ∧ Rd w a rows.flatten ∧ (∀ r ∈ rows, r.length = sz ∧ Q r) ∧ (rows = [] ∨ ∃ es sp, x.1 = .slice es sp ∧ rows.length ≤ es.length) := by
  rcases DataW.trod_slice ht h with ⟨hcs, hx⟩ | ⟨a, len, cap, elems, rest, n, _, hcs, hx, hb, hl, hm, hlen, hel, _, _⟩
  · exact ⟨none, [], 0, hcs, Nat.le_refl _, Nat.zero_le _, fun _ => rfl, Rd.nil _ _, by simp, .inl rfl⟩
  · have hd : x.1 = .slice (elems.map (·.1)) (rest.map (·.1)) := congrArg Prod.fst hx
    rw [hc] at hel
    have each : ∀ i, i < len → ∃ cs, w.cells? 0 (a.add (i * sz)) sz = some cs ∧ Q cs := by
      intro i hi
      have h1 := hel i hi
      obtain ⟨y, hy⟩ : ∃ y, elems[i]? = some y := ⟨elems[i]'(by omega), by simp⟩
      rw [hy, Option.bind_eq_some_iff] at h1
      obtain ⟨cs, h2, h3⟩ := h1
      refine ⟨cs, h2, hQ n cs y (cells_list h2).1 h3 fun hw => ?_⟩
      rw [hd] at hw
      exact light_elem ht hw (List.mem_map.2 ⟨y, List.mem_of_getElem? hy, rfl⟩)
    have all : ∀ l, l ≤ len → ∃ rows : List (List Value), rows.length = l ∧ (∀ i r, rows[i]? = some r → w.cells? 0 (a.add (i * sz)) sz = some r) ∧ ∀ r ∈ rows, Q r := by
      intro l
      induction l with
      | zero => intro _; exact ⟨[], rfl, by simp, by simp⟩
      | succ l ih =>
        intro hl'
        obtain ⟨rows, r1, r2, r3⟩ := ih (by omega)
        obtain ⟨cs, h1, h2⟩ := each l (by omega)
        refine ⟨rows ++ [cs], by simp [r1], fun i r hr => ?_, fun r hr => ?_⟩
        · rcases Nat.lt_or_ge i rows.length with hi | hi
          · rw [List.getElem?_append_left hi] at hr; exact r2 i r hr
          · rw [List.getElem?_append_right hi] at hr
            have : i - rows.length = 0 := by
              rcases Nat.eq_zero_or_pos (i - rows.length) with h | h
              · exact h
              · rw [List.getElem?_eq_none (by simp; omega)] at hr; cases hr
            rw [this] at hr
            simp at hr; subst hr
            have : i = l := by omega
            subst this; exact h1
        · rcases List.mem_append.1 hr with hr | hr
          · exact r3 r hr
          · simp at hr; subst hr; exact h2
    obtain ⟨rows, r1, r2, r3⟩ := all len (Nat.le_refl _)
    have hrl : ∀ r ∈ rows, r.length = sz := fun r hr => by
      obtain ⟨i, hi⟩ := List.getElem?_of_mem hr
      exact (cells_list (r2 i r hi)).1
    refine ⟨some a, rows, cap, by rw [r1]; exact hcs, by omega, hm, (fun h => by cases h), fun j u hj => ⟨a, rfl, ?_⟩, fun r hr => ⟨hrl r hr, r3 r hr⟩, .inr ⟨_, _, hd, by rw [List.length_map]; omega⟩⟩
    rw [flatten_at hs hrl, Option.bind_eq_some_iff] at hj
    obtain ⟨r, h1, h2⟩ := hj
    have h3 := (cells_list (r2 _ r h1)).2 (j % sz) (Nat.mod_lt _ hs)
    rw [add_add, h2] at h3
    rw [← h3]
    congr 2
    have := Nat.div_add_mod j sz
    rw [Nat.mul_comm] at this
    exact this.symm
theorem flatMap_one {α : Type} (f : α → Value) : ∀ (rs : List α), (rs.flatMap fun x => [f x]) = rs.map f
  | [] => rfl
  | x :: r => by rw [List.flatMap_cons, flatMap_one f r]; rfl
/-- a slice whose elements nobody asks for -/
theorem slc_open {t e : TypeId} {n : Nat} {cs : List Value} {x : DataW H × List MemPlace} (ht : P.underlying t = some (.slice e)) (h : DataW.trod enc P w 0 (fun _ => true) true n t cs = some x) : ∃ a l c, cs = [.slice a l c] := by
  rcases DataW.trod_slice ht h with ⟨hcs, hx⟩ | ⟨a, len, cap, elems, rest, n, _, hcs, _⟩
  · exact ⟨_, _, _, hcs⟩
  · exact ⟨_, _, _, hcs⟩
end
end Go.Sh
namespace Go.Proofs.Ytmliokbonkndaaa
open Go Go.Sh
open Go.ChangeShapes Go.WideShapes Go.ChangeAt Go.WideMaps Go.WideElems Go.RowKit
set_option maxRecDepth 100000
namespace Row
theorem own : ownKnob Try.prog.godebug = none := by kernel_rfl
theorem laidOut : laidOutB Try.prog = true := by kernel_rfl
theorem u4 : Try.prog.underlying 4 = some .bool := by kernel_rfl
theorem u3 : Try.prog.underlying 3 = some (.int .i64) := by kernel_rfl
theorem u22 : Try.prog.underlying 22 = some (.int .u32) := by kernel_rfl
theorem z5 : Try.prog.cellsOf 5 = 1 := by kernel_rfl
theorem by5 : Try.checked.prog.bytesOf 5 = 1 := by kernel_rfl
theorem u24 : Try.prog.underlying 24 = some (.slice 4) := by kernel_rfl
theorem u25 : Try.prog.underlying 25 = some (.int .u8) := by kernel_rfl
theorem u26 : Try.prog.underlying 26 = some (.int .u16) := by kernel_rfl
theorem u27 : Try.prog.underlying 27 = some (.slice 44) := by kernel_rfl
theorem u28 : Try.prog.underlying 28 = some (.slice 22) := by kernel_rfl
theorem u29 : Try.prog.underlying 29 = some (.slice 159) := by kernel_rfl
theorem z4 : Try.prog.cellsOf 4 = 1 := by kernel_rfl
theorem z44 : Try.prog.cellsOf 44 = 2 := by kernel_rfl
theorem z26 : Try.prog.cellsOf 26 = 1 := by kernel_rfl
theorem z25 : Try.prog.cellsOf 25 = 1 := by kernel_rfl
theorem z22 : Try.prog.cellsOf 22 = 1 := by kernel_rfl
theorem z27 : Try.prog.cellsOf 27 = 1 := by kernel_rfl
theorem z28 : Try.prog.cellsOf 28 = 1 := by kernel_rfl
theorem z29 : Try.prog.cellsOf 29 = 1 := by kernel_rfl
theorem z23 : Try.prog.cellsOf 23 = 1 := by kernel_rfl
theorem z31 : Try.prog.cellsOf 31 = 15 := by kernel_rfl
theorem by44 : Try.prog.bytesOf 44 = 4 := by kernel_rfl
theorem s44 : structIs Try.prog 44 [(26, 0), (26, 1)] = true := by kernel_rfl
theorem s31 : structIs Try.prog 31 [(25, 0), (5, 1), (22, 2), (26, 3), (26, 4), (22, 5), (22, 6), (22, 7), (26, 8), (26, 9), (27, 10), (27, 11), (28, 12), (23, 13), (29, 14)] = true := by kernel_rfl
section
variable {H : Type} {enc : TypeId × Value → H} {P : Program} {w : World} {base : Nat} {spare : Nat → Bool} {held : Bool}
theorem trodAll_five {t t' t'' t3 t4 : TypeId} {args : Array Value} {ds : List (DataW H)} {ps : List MemPlace} (h : DataW.TrodAll enc P w base spare held [t, t', t'', t3, t4] args.toList ds ps) :
    ∃ v v' v'' v3 v4 d d' d'' d3 d4 p p' p'' p3 p4, args = #[v, v', v'', v3, v4] ∧ ds = [d, d', d'', d3, d4] ∧ ps = p ++ p' ++ p'' ++ p3 ++ p4 ∧ DataW.Trod enc P w base spare held t v d p ∧ DataW.Trod enc P w base spare held t' v' d' p' ∧ DataW.Trod enc P w base spare held t'' v'' d'' p'' ∧ DataW.Trod enc P w base spare held t3 v3 d3 p3 ∧ DataW.Trod enc P w base spare held t4 v4 d4 p4 := by
  obtain ⟨v, vs, d, ds', p, q, hargs, rfl, rfl, hd, hrest⟩ := trodAll_cons h
  obtain ⟨v', vs', d', ds'', p', q', rfl, rfl, rfl, hd', hrest'⟩ := trodAll_cons hrest
  obtain ⟨v'', vs'', d'', ds''', p'', q'', rfl, rfl, rfl, hd'', hrest''⟩ := trodAll_cons hrest'
  obtain ⟨v3, vs3, d3, ds3, p3, q3, rfl, rfl, rfl, hd3, hrest3⟩ := trodAll_cons hrest''
  obtain ⟨v4, vs4, d4, ds4, p4, q4, rfl, rfl, rfl, hd4, hrest4⟩ := trodAll_cons hrest3
  obtain ⟨rfl, rfl, rfl⟩ := trodAll_nil hrest4
  exact ⟨v, v', v'', v3, v4, d, d', d'', d3, d4, p, p', p'', p3, p4, by cases args; simp_all, rfl, by simp, hd, hd', hd'', hd3, hd4⟩
theorem trodAll_mk5 {t t' t'' t3 t4 : TypeId} {v v' v'' v3 v4 : Value} {d d' d'' d3 d4 : DataW H} {p p' p'' p3 p4 : List MemPlace} (h : DataW.Trod enc P w base spare held t v d p) (h' : DataW.Trod enc P w base spare held t' v' d' p')
    (h'' : DataW.Trod enc P w base spare held t'' v'' d'' p'') (h3 : DataW.Trod enc P w base spare held t3 v3 d3 p3) (h4 : DataW.Trod enc P w base spare held t4 v4 d4 p4) : DataW.TrodAll enc P w base spare held [t, t', t'', t3, t4] [v, v', v'', v3, v4] [d, d', d'', d3, d4] (p ++ (p' ++ (p'' ++ (p3 ++ p4)))) := trodAll_cons_mk h (trodAll_mk4 h' h'' h3 h4)
theorem trodAll_six {t t' t'' t3 t4 t5 : TypeId} {args : Array Value} {ds : List (DataW H)} {ps : List MemPlace} (h : DataW.TrodAll enc P w base spare held [t, t', t'', t3, t4, t5] args.toList ds ps) :
    ∃ v v' v'' v3 v4 v5 d d' d'' d3 d4 d5 p p' p'' p3 p4 p5, args = #[v, v', v'', v3, v4, v5] ∧ ds = [d, d', d'', d3, d4, d5] ∧ ps = p ++ p' ++ p'' ++ p3 ++ p4 ++ p5 ∧ DataW.Trod enc P w base spare held t v d p ∧ DataW.Trod enc P w base spare held t' v' d' p' ∧ DataW.Trod enc P w base spare held t'' v'' d'' p'' ∧ DataW.Trod enc P w base spare held t3 v3 d3 p3 ∧ DataW.Trod enc P w base spare held t4 v4 d4 p4 ∧ DataW.Trod enc P w base spare held t5 v5 d5 p5 := by
  obtain ⟨v, vs, d, ds', p, q, hargs, rfl, rfl, hd, hrest⟩ := trodAll_cons h
  obtain ⟨v', vs', d', ds'', p', q', rfl, rfl, rfl, hd', hrest'⟩ := trodAll_cons hrest
  obtain ⟨v'', vs'', d'', ds''', p'', q'', rfl, rfl, rfl, hd'', hrest''⟩ := trodAll_cons hrest'
  obtain ⟨v3, vs3, d3, ds3, p3, q3, rfl, rfl, rfl, hd3, hrest3⟩ := trodAll_cons hrest''
  obtain ⟨v4, vs4, d4, ds4, p4, q4, rfl, rfl, rfl, hd4, hrest4⟩ := trodAll_cons hrest3
  obtain ⟨v5, vs5, d5, ds5, p5, q5, rfl, rfl, rfl, hd5, hrest5⟩ := trodAll_cons hrest4
  obtain ⟨rfl, rfl, rfl⟩ := trodAll_nil hrest5
  exact ⟨v, v', v'', v3, v4, v5, d, d', d'', d3, d4, d5, p, p', p'', p3, p4, p5, by cases args; simp_all, rfl, by simp, hd, hd', hd'', hd3, hd4, hd5⟩
theorem trodAll_mk6 {t t' t'' t3 t4 t5 : TypeId} {v v' v'' v3 v4 v5 : Value} {d d' d'' d3 d4 d5 : DataW H} {p p' p'' p3 p4 p5 : List MemPlace} (h : DataW.Trod enc P w base spare held t v d p) (h' : DataW.Trod enc P w base spare held t' v' d' p')
    (h'' : DataW.Trod enc P w base spare held t'' v'' d'' p'') (h3 : DataW.Trod enc P w base spare held t3 v3 d3 p3) (h4 : DataW.Trod enc P w base spare held t4 v4 d4 p4) (h5 : DataW.Trod enc P w base spare held t5 v5 d5 p5) : DataW.TrodAll enc P w base spare held [t, t', t'', t3, t4, t5] [v, v', v'', v3, v4, v5] [d, d', d'', d3, d4, d5] (p ++ (p' ++ (p'' ++ (p3 ++ (p4 ++ p5))))) := trodAll_cons_mk h (trodAll_mk5 h' h'' h3 h4 h5)
end
end Row
open Row
section
variable {H : Type} {enc : TypeId × Value → H} {w : World}
theorem gaps_open {n : Nat} {cs : List Value} {x : DataW H × List MemPlace} (h : DataW.trod enc Try.prog w 0 (fun _ => true) true n 27 cs = some x) (hw : light Try.prog 27 x.1) :
    ∃ a c, ∃ G : List Gp, cs = [.slice a G.length c] ∧ Rd w a (gapV G) ∧ gOk G ∧ G.length ≤ 140737488355328 ∧ (G = [] ∨ ∃ es sp, x.1 = .slice es sp ∧ G.length ≤ es.length) := by
  obtain ⟨a, rows, c, hcs, _, _, _, hr, hQ, hb⟩ := recs_open3 (sz := 2) (Q := fun r => ∃ g : Gp, r = gpV g ∧ (0 ≤ g.1 ∧ g.1 ≤ 65535 ∧ 0 ≤ g.2 ∧ g.2 ≤ 65535)) (by decide) u27 z44 (fun n r y hl hy _ => by
    obtain ⟨m, parts, _, hf⟩ := fld_of3 s44 hy
    match r, hl with
    | [c0, c1], _ =>
      obtain ⟨y0, h0, _⟩ := hf 0 26 0 rfl
      obtain ⟨y1, h1, _⟩ := hf 1 26 1 rfl
      rw [z26] at h0 h1
      obtain ⟨k0, e0, _, w0⟩ := DataW.trod_int u26 h0
      obtain ⟨k1, e1, _, w1⟩ := DataW.trod_int u26 h1
      simp at e0 e1
      subst e0; subst e1
      have w0 := wf_u16 w0
      have w1 := wf_u16 w1
      exact ⟨(k0, k1), rfl, by show 0 ≤ k0 ∧ k0 ≤ 65535 ∧ 0 ≤ k1 ∧ k1 ≤ 65535; omega⟩) h
  obtain ⟨G, hl, hfl, hG⟩ := recs_of rows fun r hr => (hQ r hr).2
  rw [hfl] at hr
  refine ⟨a, c, G, by rw [hl]; exact hcs, hr, hG, ?_, ?_⟩
  · rcases hb with rfl | ⟨es, sp, hx, hle⟩
    · rw [hl]; simp
    · rw [hx] at hw
      have h1 := light_len u27 hw
      rw [by44] at h1
      have h2 := reachBytes_lt
      omega
  · rcases hb with rfl | ⟨es, sp, hx, hle⟩
    · left; exact List.length_eq_zero_iff.1 (by simpa using hl)
    · right; exact ⟨es, sp, hx, by omega⟩
theorem chunk_open {n : Nat} {cs : List Value} {x : DataW H × List MemPlace} (hl : cs.length = 15) (h : DataW.trod enc Try.prog w 0 (fun _ => true) true n 31 cs = some x) (hw : light Try.prog 31 x.1) :
    ∃ s r parts, cs = R30.l s ∧ ChOk w s r ∧ x.1 = .agg parts ∧ (r.G = [] ∨ ∃ es sp, parts[10]? = some (.slice es sp) ∧ r.G.length ≤ es.length) := by
  obtain ⟨m, parts, hx, hf⟩ := fld_of3 s31 h
  match cs, hl with
  | [c0, c1, c2, c3, c4, c5, c6, c7, c8, c9, c10, c11, c12, c13, c14], _ =>
    obtain ⟨y0, h0, _⟩ := hf 0 25 0 rfl
    obtain ⟨y1, h1, _⟩ := hf 1 5 1 rfl
    obtain ⟨y2, h2, _⟩ := hf 2 22 2 rfl
    obtain ⟨y3, h3, _⟩ := hf 3 26 3 rfl
    obtain ⟨y4, h4, _⟩ := hf 4 26 4 rfl
    obtain ⟨y5, h5, _⟩ := hf 5 22 5 rfl
    obtain ⟨y6, h6, _⟩ := hf 6 22 6 rfl
    obtain ⟨y7, h7, _⟩ := hf 7 22 7 rfl
    obtain ⟨y8, h8, _⟩ := hf 8 26 8 rfl
    obtain ⟨y9, h9, _⟩ := hf 9 26 9 rfl
    obtain ⟨y10, h10, p10, l10⟩ := hf 10 27 10 rfl
    obtain ⟨y11, h11, p11, l11⟩ := hf 11 27 11 rfl
    obtain ⟨y12, h12, _⟩ := hf 12 28 12 rfl
    obtain ⟨y13, h13, _⟩ := hf 13 23 13 rfl
    obtain ⟨y14, h14, _⟩ := hf 14 29 14 rfl
    rw [z25] at h0
    rw [z5] at h1
    rw [z22] at h2 h5 h6 h7
    rw [z26] at h3 h4 h8 h9
    rw [z27] at h10 h11
    rw [z28] at h12
    rw [z23] at h13
    rw [z29] at h14
    obtain ⟨k0, e0, _, _⟩ := DataW.trod_int u25 h0
    obtain ⟨k1, e1, _, _⟩ := DataW.trod_int u5 h1
    obtain ⟨k2, e2, _, w2⟩ := DataW.trod_int u22 h2
    obtain ⟨k3, e3, _, _⟩ := DataW.trod_int u26 h3
    obtain ⟨k4, e4, _, _⟩ := DataW.trod_int u26 h4
    obtain ⟨k5, e5, _, _⟩ := DataW.trod_int u22 h5
    obtain ⟨k6, e6, _, _⟩ := DataW.trod_int u22 h6
    obtain ⟨k7, e7, _, _⟩ := DataW.trod_int u22 h7
    obtain ⟨k8, e8, _, _⟩ := DataW.trod_int u26 h8
    obtain ⟨k9, e9, _, _⟩ := DataW.trod_int u26 h9
    obtain ⟨a10, q10, G, e10, hG, gok, gfew, gb⟩ := gaps_open h10 (l10 hw)
    obtain ⟨a11, q11, NR, e11, hNR, nok, nfew, _⟩ := gaps_open h11 (l11 hw)
    obtain ⟨a12, l12, q12, e12⟩ := slc_open u28 h12
    obtain ⟨a13, l13, q13, e13⟩ := slc_open u23 h13
    obtain ⟨a14, l14, q14, e14⟩ := slc_open u29 h14
    simp at e0 e1 e2 e3 e4 e5 e6 e7 e8 e9 e10 e11 e12 e13 e14
    subst e0; subst e1; subst e2; subst e3; subst e4; subst e5; subst e6; subst e7; subst e8; subst e9; subst e10; subst e11; subst e12; subst e13; subst e14
    refine ⟨⟨k0, k1, k2, k3, k4, k5, k6, k7, k8, k9, a10, G.length, q10, a11, NR.length, q11, a12, l12, q12, a13, l13, q13, a14, l14, q14⟩, ⟨k0, k2, G, NR⟩, parts, rfl, ⟨rfl, rfl, wf_u32 w2, rfl, hG, rfl, hNR, ⟨gok, gfew⟩, ⟨nok, nfew⟩⟩, hx, ?_⟩
    rcases gb with h | ⟨es, sp, h1, h2⟩
    · exact .inl h
    · rw [h1] at p10
      exact .inr ⟨es, sp, p10, h2⟩
theorem chunk_in {r : Reach} {b0 : Nat} {v : Value} {d : DataW H} {ps : List MemPlace} (hval : Value.okWide Try.prog w r b0 31 v) (hw : light Try.prog 31 d) (h : DataW.Trod enc Try.prog w 0 (fun _ => true) true 31 v d ps) :
    ∃ s r parts, v = R30.v s ∧ ChOk w s r ∧ d = .agg parts ∧ (r.G = [] ∨ ∃ es sp, parts[10]? = some (.slice es sp) ∧ r.G.length ≤ es.length) := by
  obtain ⟨fs, hu, _⟩ := struct_of s31
  obtain ⟨cs, rfl, hsz⟩ := okWide_struct hu hval
  rw [z31] at hsz
  obtain ⟨fuel, hf⟩ := h
  obtain ⟨s, r, parts, hs, hk, hx, hb⟩ := chunk_open (by show cs.toList.length = 15; simpa using hsz) (show DataW.trod enc Try.prog w 0 (fun _ => true) true fuel 31 cs.toList = some (d, ps) from hf) hw
  refine ⟨s, r, parts, ?_, hk, hx, hb⟩
  unfold R30.v
  congr 1
  apply Array.toList_inj.1
  rw [hs]
  rfl
theorem bools_in {r : Reach} {b0 : Nat} {v : Value} {d : DataW H} {ps : List MemPlace} (hval : Value.okWide Try.prog w r b0 24 v) (h : DataW.Trod enc Try.prog w 0 (fun _ => true) true 24 v d ps) :
    ∃ a c, ∃ Bs : List Bool, v = .slice a Bs.length c ∧ Rd w a (blV Bs) := by
  obtain ⟨a0, l0, c0, rfl⟩ := okWide_slice u24 hval
  obtain ⟨fuel, hf⟩ := h
  obtain ⟨a, rows, c, hcs, _, _, _, hr, hQ, _⟩ := recs_open3 (sz := 1) (Q := fun r => ∃ b : Bool, r = [.bool b] ∧ True) (by decide) u24 z4 (fun n r y hl hy _ => by
    obtain ⟨k, e, _⟩ := DataW.trod_bool u4 hy
    exact ⟨k, e, trivial⟩) hf
  obtain ⟨Bs, hl, hfl, _⟩ := recs_of rows fun r hr => (hQ r hr).2
  simp [Value.cells] at hcs
  obtain ⟨rfl, rfl, rfl⟩ := hcs
  rw [hfl, flatMap_one] at hr
  exact ⟨_, _, Bs, by rw [hl], hr⟩
end
end Go.Proofs.Ytmliokbonkndaaa
namespace Go.Proofs.Ytmliokbonkndaaa
open Go Go.Sh
abbrev Dt := En × Option Addr × Nat
def refL (rb : Nat) (n cum : Int) (a : Option Addr) (c : Nat) (ds : List Dt) : List HP := pt rb (.cells (R78.mk n cum a ds.length c).c 107 (0, 0)) :: outL a c ds
def fsts (ds : List Dt) : List En := ds.map (·.1)
structure RQ (w : World) (rb : Nat) (n cum : Int) (a : Option Addr) (c : Nat) (ds : List Dt) : Prop where
  blk : w.heap[rb]? = some (.cells (R78.mk n cum a ds.length c).c 107 (0, 0))
  row : Rd w a (ds.flatMap recV)
  dat : ∀ d ∈ ds, Rd w d.2.1 (byV d.1.data)
theorem RQ.same {w w' : World} {rb : Nat} {n cum : Int} {a : Option Addr} {c : Nat} {ds : List Dt} (h : RQ w rb n cum a c ds) (s : Same w w') : RQ w' rb n cum a c ds :=
  ⟨s.blk h.blk fun x => x, h.row.fr s fun _ _ x => x, fun d hd => (h.dat d hd).fr s fun _ _ x => x⟩
section
variable {W w : World} {L M : List HP} {rb : Nat} {n cum : Int} {a : Option Addr} {c : Nat} {ds : List Dt} {d : Dt} {j : Nat}
theorem out_dat (h : Hs W (outL a c ds ++ L) w) : ∀ d ∈ ds, Rd w d.2.1 (byV d.1.data) := fun d hd => by
  obtain ⟨i, hi⟩ := List.getElem?_of_mem hd
  have hlt := (List.getElem?_eq_some_iff.1 hi).1
  have h2 : (outL a c ds ++ L)[i + 1]? = some (datP d) := by
    rw [List.getElem?_append_left (by simp [outL]; omega)]
    simp [outL, hi]
  exact h.rd (i + 1) h2
theorem ref_rq (h : Hs W (refL rb n cum a c ds ++ L) w) : RQ w rb n cum a c ds := ⟨h.at 0 rfl, h.rd 1 rfl, out_dat h.drop⟩
theorem ref_rqX {X : List HP} (h : Hs W (X ++ (refL rb n cum a c ds ++ L)) w) : RQ w rb n cum a c ds := ref_rq (Hs.flip.1 h)
theorem recV_flat (ds : List Dt) : (ds.flatMap recV).length = ds.length * 14 := flat_length (m := 14) recV_length ds
/-- the row of chunks, read at a place -/
theorem RQ.at_row {K : Addr → Prop} (h : RQ w rb n cum a c ds) (hd : ds[j]? = some d) (hK : ∀ ad, a = some ad → At w (ad.add (j * 14)) (recV d) → K (ad.add (j * 14))) : ixS 14 a ds.length (j : Int) K := by
  have hlt := (List.getElem?_eq_some_iff.1 hd).1
  have hr := h.row
  obtain ⟨ad, had⟩ := hr.some (by rw [recV_flat]; omega)
  rw [had] at hr ⊢
  exact ixS_to (p := j) rfl hlt (hK ad had (hr.atI recV_length hd))
theorem RQ.len {K : Option Addr → Nat → Nat → Prop} (h : RQ w rb n cum a c ds) (hK : K a ds.length c) : ldC (Addr.mk rb (0 + 2) none) w K := ldC_at h.blk rfl hK
theorem fsts_at (hd : ds[j]? = some d) : (fsts ds)[j]? = some d.1 := by simp [fsts, hd]
theorem at_i {ad : Addr} {k : Nat} {K : Int → Prop} {q : IntKind} {x : Int} (h : At w ad (recV d)) (hx : (recV d)[k]? = some (.int q x)) (hK : K x) : ldI q (ad.add k) w K := ldI_c (h k _ hx) hK
theorem c65 (h : RQ w rb n cum a c ds) (p : Int) : Calls Try.prog 65 #[.pointer (some ⟨rb, 0, none⟩), .int .i64 p] w (rt (KR (.bool (decide (0 ≤ p ∧ p < n))) w)) := by
  refine F65_ok ?_
  unfold F65
  simp only [rdP_mk, rdI_mk, nn_some, add_mk, br_dec]
  refine ⟨fun h1 => ldI_at h.blk rfl ⟨?_, rfl⟩, fun h1 => ⟨?_, rfl⟩⟩
  · congr 1
    show decide (p < n) = decide (0 ≤ p ∧ p < n)
    rw [decide_eq_decide]
    omega
  · congr 1
    symm
    rw [decide_eq_false_iff_not]
    omega
theorem c66 (t : Int) (w : World) : Calls Try.prog 66 #[.int .i64 t] w (rt (KR (.bool (decide (0 ≤ t ∧ t ≤ 1099511627776))) w)) := by
  refine F66_ok ?_
  unfold F66
  simp only [rdI_mk, br_dec]
  refine ⟨fun h1 => ⟨?_, rfl⟩, fun h1 => ⟨?_, rfl⟩⟩
  · congr 1
    rw [decide_eq_decide]
    omega
  · congr 1
    symm
    rw [decide_eq_false_iff_not]
    omega
theorem c74 (s : R57) (w : World) : Calls Try.prog 74 #[s.v] w (rt fun v w' => v = .int .i64 (s.f11n : Int) ∧ Same w w') := by
  refine F74_ok ?_
  unfold F74
  refine exR57_of s ⟨rfl, ?_⟩
  refine (Hs.start w).alc fun b w1 h1 => ?_
  simp only [add_mk]
  exact h1.ldC 0 rfl rfl ⟨rfl, h1.old⟩
theorem c73 (s : R57) (w : World) : Calls Try.prog 73 #[s.v] w (rt fun v w' => v = .bool (s.f6 == 1 || s.f6 == 2) ∧ Same w w') := by
  refine F73_ok ?_
  unfold F73
  refine exR57_of s ⟨rfl, ?_⟩
  refine (Hs.start w).alc fun b w1 h1 => ?_
  simp only [add_mk]
  refine h1.ldI 0 rfl rfl ?_
  show br (s.f6 == 1) _ _
  cases e1 : s.f6 == 1 with
  | true => rw [br_true]; exact ⟨rfl, h1.old⟩
  | false => rw [br_false]; exact h1.ldI 0 rfl rfl ⟨rfl, h1.old⟩
theorem c48 (h : RQ w rb n cum a c ds) (hl : ds.length ≤ 1048576) (hc : 0 ≤ cum ∧ cum < 4294967296) : Calls Try.prog 48 #[.pointer (some ⟨rb, 0, none⟩)] w (rt fun v w' => v = .int .u32 (nxt cum ds.length) ∧ Same w w') := by
  refine F48_ok ?_
  unfold F48
  simp only [rdP_mk, nn_some, add_mk, drw]
  have s : Same w w.drew := (Fr.refl w).drew
  have h1 := h.same s
  generalize w.drew = w1 at s h1 ⊢
  refine ldI_at h1.blk rfl (h1.len ?_)
  rw [wrap_i64 (n := (ds.length : Int) + 1) (by omega) (by omega), wrap_u32 (by omega) (by omega)]
  refine clr (s21 cum _ w1 hc.1 hc.2 (by omega) (by omega)) ⟨_, rfl, ?_, s⟩
  unfold nxt
  congr 2
  omega
theorem c17 (h : Hs W L w) (first paths : Int) : Calls Try.prog 17 #[.int .u32 first, .int .i64 paths] w (rt fun v w' =>
    (¬ (1 ≤ paths ∧ paths ≤ 8) ∧ v = .tuple #[.pointer none, .int .i64 1] ∧ w' = w) ∨ ((1 ≤ paths ∧ paths ≤ 8) ∧ ∃ rb, v = .tuple #[.pointer (some ⟨rb, 0, none⟩), .int .i64 0] ∧ Hs W (refL rb paths (newC first) none 0 [] ++ L) w')) := by
  refine F17_ok ?_
  unfold F17
  simp only [rdI_mk, br_dec]
  refine ⟨fun h1 => .inl ⟨by omega, trivial, trivial⟩, fun h1 => ⟨fun h2 => .inl ⟨by omega, trivial, trivial⟩, fun h2 => ?_⟩⟩
  refine h.alc fun b w1 h1 => .inr ⟨by omega, b, rfl, ?_⟩
  have h2 := h1.nil 58 14
  rw [wrap_u32_mod] at h2
  exact h2.perm (List.Perm.swap _ _ _)
end
end Go.Proofs.Ytmliokbonkndaaa
