/-
  The arguments that are handed in.
-/
import Derived.Test.YtmliokbonkndaaaObW
import Derived.Test.YtmliokbonkndaaaShW
import Derived.Test.YtmliokbonkndaaaShZ
import Derived.Test.YtmliokbonkndaaaRows
import Derived.ProofKit
import Derived.SizedLaws
namespace Go.Proofs.Ytmliokbonkndaaa
open Go Go.Sh
open Go.ChangeShapes Go.WideShapes Go.ChangeAt Go.WideMaps Go.WideElems Go.RowKit
set_option maxRecDepth 100000
namespace Row
theorem own : ownKnob Try.prog.godebug = none := by kernel_rfl
theorem laidOut : laidOutB Try.prog = true := by kernel_rfl
theorem u4 : Try.prog.underlying 4 = some .bool := by kernel_rfl
theorem u3 : Try.prog.underlying 3 = some (.int .i64) := by kernel_rfl
theorem u22 : Try.prog.underlying 22 = some (.int .u32) := by kernel_rfl
theorem z5 : Try.prog.cellsOf 5 = 1 := by kernel_rfl
theorem by5 : Try.checked.prog.bytesOf 5 = 1 := by kernel_rfl
theorem u24 : Try.prog.underlying 24 = some (.slice 4) := by kernel_rfl
theorem u25 : Try.prog.underlying 25 = some (.int .u8) := by kernel_rfl
theorem u26 : Try.prog.underlying 26 = some (.int .u16) := by kernel_rfl
theorem u27 : Try.prog.underlying 27 = some (.slice 44) := by kernel_rfl
theorem u28 : Try.prog.underlying 28 = some (.slice 22) := by kernel_rfl
theorem u29 : Try.prog.underlying 29 = some (.slice 159) := by kernel_rfl
theorem z4 : Try.prog.cellsOf 4 = 1 := by kernel_rfl
theorem z44 : Try.prog.cellsOf 44 = 2 := by kernel_rfl
theorem z26 : Try.prog.cellsOf 26 = 1 := by kernel_rfl
theorem z25 : Try.prog.cellsOf 25 = 1 := by kernel_rfl
theorem z22 : Try.prog.cellsOf 22 = 1 := by kernel_rfl
theorem z27 : Try.prog.cellsOf 27 = 1 := by kernel_rfl
theorem z28 : Try.prog.cellsOf 28 = 1 := by kernel_rfl
theorem z29 : Try.prog.cellsOf 29 = 1 := by kernel_rfl
theorem z23 : Try.prog.cellsOf 23 = 1 := by kernel_rfl
theorem z31 : Try.prog.cellsOf 31 = 15 := by kernel_rfl
theorem by44 : Try.prog.bytesOf 44 = 4 := by kernel_rfl
theorem s44 : structIs Try.prog 44 [(26, 0), (26, 1)] = true := by kernel_rfl
theorem s31 : structIs Try.prog 31 [(25, 0), (5, 1), (22, 2), (26, 3), (26, 4), (22, 5), (22, 6), (22, 7), (26, 8), (26, 9), (27, 10), (27, 11), (28, 12), (23, 13), (29, 14)] = true := by kernel_rfl
section
variable {H : Type} {enc : TypeId × Value → H} {P : Program} {w : World} {base : Nat} {spare : Nat → Bool} {held : Bool}
theorem trodAll_five {t t' t'' t3 t4 : TypeId} {args : Array Value} {ds : List (DataW H)} {ps : List MemPlace} (h : DataW.TrodAll enc P w base spare held [t, t', t'', t3, t4] args.toList ds ps) :
    ∃ v v' v'' v3 v4 d d' d'' d3 d4 p p' p'' p3 p4, args = #[v, v', v'', v3, v4] ∧ ds = [d, d', d'', d3, d4] ∧ ps = p ++ p' ++ p'' ++ p3 ++ p4 ∧ DataW.Trod enc P w base spare held t v d p ∧ DataW.Trod enc P w base spare held t' v' d' p' ∧ DataW.Trod enc P w base spare held t'' v'' d'' p'' ∧ DataW.Trod enc P w base spare held t3 v3 d3 p3 ∧ DataW.Trod enc P w base spare held t4 v4 d4 p4 := by
  obtain ⟨v, vs, d, ds', p, q, hargs, rfl, rfl, hd, hrest⟩ := trodAll_cons h
  obtain ⟨v', vs', d', ds'', p', q', rfl, rfl, rfl, hd', hrest'⟩ := trodAll_cons hrest
  obtain ⟨v'', vs'', d'', ds''', p'', q'', rfl, rfl, rfl, hd'', hrest''⟩ := trodAll_cons hrest'
  obtain ⟨v3, vs3, d3, ds3, p3, q3, rfl, rfl, rfl, hd3, hrest3⟩ := trodAll_cons hrest''
  obtain ⟨v4, vs4, d4, ds4, p4, q4, rfl, rfl, rfl, hd4, hrest4⟩ := trodAll_cons hrest3
  obtain ⟨rfl, rfl, rfl⟩ := trodAll_nil hrest4
  exact ⟨v, v', v'', v3, v4, d, d', d'', d3, d4, p, p', p'', p3, p4, by cases args; simp_all, rfl, by simp, hd, hd', hd'', hd3, hd4⟩
theorem trodAll_mk5 {t t' t'' t3 t4 : TypeId} {v v' v'' v3 v4 : Value} {d d' d'' d3 d4 : DataW H} {p p' p'' p3 p4 : List MemPlace} (h : DataW.Trod enc P w base spare held t v d p) (h' : DataW.Trod enc P w base spare held t' v' d' p')
    (h'' : DataW.Trod enc P w base spare held t'' v'' d'' p'') (h3 : DataW.Trod enc P w base spare held t3 v3 d3 p3) (h4 : DataW.Trod enc P w base spare held t4 v4 d4 p4) : DataW.TrodAll enc P w base spare held [t, t', t'', t3, t4] [v, v', v'', v3, v4] [d, d', d'', d3, d4] (p ++ (p' ++ (p'' ++ (p3 ++ p4)))) := trodAll_cons_mk h (trodAll_mk4 h' h'' h3 h4)
theorem trodAll_six {t t' t'' t3 t4 t5 : TypeId} {args : Array Value} {ds : List (DataW H)} {ps : List MemPlace} (h : DataW.TrodAll enc P w base spare held [t, t', t'', t3, t4, t5] args.toList ds ps) :
    ∃ v v' v'' v3 v4 v5 d d' d'' d3 d4 d5 p p' p'' p3 p4 p5, args = #[v, v', v'', v3, v4, v5] ∧ ds = [d, d', d'', d3, d4, d5] ∧ ps = p ++ p' ++ p'' ++ p3 ++ p4 ++ p5 ∧ DataW.Trod enc P w base spare held t v d p ∧ DataW.Trod enc P w base spare held t' v' d' p' ∧ DataW.Trod enc P w base spare held t'' v'' d'' p'' ∧ DataW.Trod enc P w base spare held t3 v3 d3 p3 ∧ DataW.Trod enc P w base spare held t4 v4 d4 p4 ∧ DataW.Trod enc P w base spare held t5 v5 d5 p5 := by
  obtain ⟨v, vs, d, ds', p, q, hargs, rfl, rfl, hd, hrest⟩ := trodAll_cons h
  obtain ⟨v', vs', d', ds'', p', q', rfl, rfl, rfl, hd', hrest'⟩ := trodAll_cons hrest
  obtain ⟨v'', vs'', d'', ds''', p'', q'', rfl, rfl, rfl, hd'', hrest''⟩ := trodAll_cons hrest'
  obtain ⟨v3, vs3, d3, ds3, p3, q3, rfl, rfl, rfl, hd3, hrest3⟩ := trodAll_cons hrest''
  obtain ⟨v4, vs4, d4, ds4, p4, q4, rfl, rfl, rfl, hd4, hrest4⟩ := trodAll_cons hrest3
  obtain ⟨v5, vs5, d5, ds5, p5, q5, rfl, rfl, rfl, hd5, hrest5⟩ := trodAll_cons hrest4
  obtain ⟨rfl, rfl, rfl⟩ := trodAll_nil hrest5
  exact ⟨v, v', v'', v3, v4, v5, d, d', d'', d3, d4, d5, p, p', p'', p3, p4, p5, by cases args; simp_all, rfl, by simp, hd, hd', hd'', hd3, hd4, hd5⟩
theorem trodAll_mk6 {t t' t'' t3 t4 t5 : TypeId} {v v' v'' v3 v4 v5 : Value} {d d' d'' d3 d4 d5 : DataW H} {p p' p'' p3 p4 p5 : List MemPlace} (h : DataW.Trod enc P w base spare held t v d p) (h' : DataW.Trod enc P w base spare held t' v' d' p')
    (h'' : DataW.Trod enc P w base spare held t'' v'' d'' p'') (h3 : DataW.Trod enc P w base spare held t3 v3 d3 p3) (h4 : DataW.Trod enc P w base spare held t4 v4 d4 p4) (h5 : DataW.Trod enc P w base spare held t5 v5 d5 p5) : DataW.TrodAll enc P w base spare held [t, t', t'', t3, t4, t5] [v, v', v'', v3, v4, v5] [d, d', d'', d3, d4, d5] (p ++ (p' ++ (p'' ++ (p3 ++ (p4 ++ p5))))) := trodAll_cons_mk h (trodAll_mk5 h' h'' h3 h4 h5)
end
end Row
open Row
/-- a chunk that was handed in -/
structure ChOk (W : World) (s : R30) (r : Rp) : Prop where
  kind : s.f0 = r.kind
  tsn : s.f2 = r.tsn
  t0 : 0 ≤ r.tsn ∧ r.tsn < 4294967296
  gl : s.f10n = r.G.length
  gr : Rd W s.f10a (gapV r.G)
  nl : s.f11n = r.NR.length
  nr : Rd W s.f11a (gapV r.NR)
  gok : gOk r.G ∧ r.G.length ≤ 140737488355328
  nok : gOk r.NR ∧ r.NR.length ≤ 140737488355328
section
variable {H : Type} {enc : TypeId × Value → H} {w : World}
theorem gaps_open {n : Nat} {cs : List Value} {x : DataW H × List MemPlace} (h : DataW.trod enc Try.prog w 0 (fun _ => true) true n 27 cs = some x) (hw : light Try.prog 27 x.1) :
    ∃ a c, ∃ G : List Gp, cs = [.slice a G.length c] ∧ Rd w a (gapV G) ∧ gOk G ∧ G.length ≤ 140737488355328 ∧ (G = [] ∨ ∃ es sp, x.1 = .slice es sp ∧ G.length ≤ es.length) := by
  obtain ⟨a, rows, c, hcs, _, _, _, hr, hQ, hb⟩ := recs_open3 (sz := 2) (Q := fun r => ∃ g : Gp, r = gpV g ∧ (0 ≤ g.1 ∧ g.1 ≤ 65535 ∧ 0 ≤ g.2 ∧ g.2 ≤ 65535)) (by decide) u27 z44 (fun n r y hl hy _ => by
    obtain ⟨m, parts, _, hf⟩ := fld_of3 s44 hy
    match r, hl with
    | [c0, c1], _ =>
      obtain ⟨y0, h0, _⟩ := hf 0 26 0 rfl
      obtain ⟨y1, h1, _⟩ := hf 1 26 1 rfl
      rw [z26] at h0 h1
      obtain ⟨k0, e0, _, w0⟩ := DataW.trod_int u26 h0
      obtain ⟨k1, e1, _, w1⟩ := DataW.trod_int u26 h1
      simp at e0 e1
      subst e0; subst e1
      have w0 := wf_u16 w0
      have w1 := wf_u16 w1
      exact ⟨(k0, k1), rfl, by show 0 ≤ k0 ∧ k0 ≤ 65535 ∧ 0 ≤ k1 ∧ k1 ≤ 65535; omega⟩) h
  obtain ⟨G, hl, hfl, hG⟩ := recs_of rows fun r hr => (hQ r hr).2
  rw [hfl] at hr
  refine ⟨a, c, G, by rw [hl]; exact hcs, hr, hG, ?_, ?_⟩
  · rcases hb with rfl | ⟨es, sp, hx, hle⟩
    · rw [hl]; simp
    · rw [hx] at hw
      have h1 := light_len u27 hw
      rw [by44] at h1
      have h2 := reachBytes_lt
      omega
  · rcases hb with rfl | ⟨es, sp, hx, hle⟩
    · left; exact List.length_eq_zero_iff.1 (by simpa using hl)
    · right; exact ⟨es, sp, hx, by omega⟩
theorem chunk_open {n : Nat} {cs : List Value} {x : DataW H × List MemPlace} (hl : cs.length = 15) (h : DataW.trod enc Try.prog w 0 (fun _ => true) true n 31 cs = some x) (hw : light Try.prog 31 x.1) :
    ∃ s r parts, cs = R30.l s ∧ ChOk w s r ∧ x.1 = .agg parts ∧ (r.G = [] ∨ ∃ es sp, parts[10]? = some (.slice es sp) ∧ r.G.length ≤ es.length) := by
  obtain ⟨m, parts, hx, hf⟩ := fld_of3 s31 h
  match cs, hl with
  | [c0, c1, c2, c3, c4, c5, c6, c7, c8, c9, c10, c11, c12, c13, c14], _ =>
    obtain ⟨y0, h0, _⟩ := hf 0 25 0 rfl
    obtain ⟨y1, h1, _⟩ := hf 1 5 1 rfl
    obtain ⟨y2, h2, _⟩ := hf 2 22 2 rfl
    obtain ⟨y3, h3, _⟩ := hf 3 26 3 rfl
    obtain ⟨y4, h4, _⟩ := hf 4 26 4 rfl
    obtain ⟨y5, h5, _⟩ := hf 5 22 5 rfl
    obtain ⟨y6, h6, _⟩ := hf 6 22 6 rfl
    obtain ⟨y7, h7, _⟩ := hf 7 22 7 rfl
    obtain ⟨y8, h8, _⟩ := hf 8 26 8 rfl
    obtain ⟨y9, h9, _⟩ := hf 9 26 9 rfl
    obtain ⟨y10, h10, p10, l10⟩ := hf 10 27 10 rfl
    obtain ⟨y11, h11, p11, l11⟩ := hf 11 27 11 rfl
    obtain ⟨y12, h12, _⟩ := hf 12 28 12 rfl
    obtain ⟨y13, h13, _⟩ := hf 13 23 13 rfl
    obtain ⟨y14, h14, _⟩ := hf 14 29 14 rfl
    rw [z25] at h0
    rw [z5] at h1
    rw [z22] at h2 h5 h6 h7
    rw [z26] at h3 h4 h8 h9
    rw [z27] at h10 h11
    rw [z28] at h12
    rw [z23] at h13
    rw [z29] at h14
    obtain ⟨k0, e0, _, _⟩ := DataW.trod_int u25 h0
    obtain ⟨k1, e1, _, _⟩ := DataW.trod_int u5 h1
    obtain ⟨k2, e2, _, w2⟩ := DataW.trod_int u22 h2
    obtain ⟨k3, e3, _, _⟩ := DataW.trod_int u26 h3
    obtain ⟨k4, e4, _, _⟩ := DataW.trod_int u26 h4
    obtain ⟨k5, e5, _, _⟩ := DataW.trod_int u22 h5
    obtain ⟨k6, e6, _, _⟩ := DataW.trod_int u22 h6
    obtain ⟨k7, e7, _, _⟩ := DataW.trod_int u22 h7
    obtain ⟨k8, e8, _, _⟩ := DataW.trod_int u26 h8
    obtain ⟨k9, e9, _, _⟩ := DataW.trod_int u26 h9
    obtain ⟨a10, q10, G, e10, hG, gok, gfew, gb⟩ := gaps_open h10 (l10 hw)
    obtain ⟨a11, q11, NR, e11, hNR, nok, nfew, _⟩ := gaps_open h11 (l11 hw)
    obtain ⟨a12, l12, q12, e12⟩ := slc_open u28 h12
    obtain ⟨a13, l13, q13, e13⟩ := slc_open u23 h13
    obtain ⟨a14, l14, q14, e14⟩ := slc_open u29 h14
    simp at e0 e1 e2 e3 e4 e5 e6 e7 e8 e9 e10 e11 e12 e13 e14
    subst e0; subst e1; subst e2; subst e3; subst e4; subst e5; subst e6; subst e7; subst e8; subst e9; subst e10; subst e11; subst e12; subst e13; subst e14
    refine ⟨⟨k0, k1, k2, k3, k4, k5, k6, k7, k8, k9, a10, G.length, q10, a11, NR.length, q11, a12, l12, q12, a13, l13, q13, a14, l14, q14⟩, ⟨k0, k2, G, NR⟩, parts, rfl, ⟨rfl, rfl, wf_u32 w2, rfl, hG, rfl, hNR, ⟨gok, gfew⟩, ⟨nok, nfew⟩⟩, hx, ?_⟩
    rcases gb with h | ⟨es, sp, h1, h2⟩
    · exact .inl h
    · rw [h1] at p10
      exact .inr ⟨es, sp, p10, h2⟩
theorem chunk_in {r : Reach} {b0 : Nat} {v : Value} {d : DataW H} {ps : List MemPlace} (hval : Value.okWide Try.prog w r b0 31 v) (hw : light Try.prog 31 d) (h : DataW.Trod enc Try.prog w 0 (fun _ => true) true 31 v d ps) :
    ∃ s r parts, v = R30.v s ∧ ChOk w s r ∧ d = .agg parts ∧ (r.G = [] ∨ ∃ es sp, parts[10]? = some (.slice es sp) ∧ r.G.length ≤ es.length) := by
  obtain ⟨fs, hu, _⟩ := struct_of s31
  obtain ⟨cs, rfl, hsz⟩ := okWide_struct hu hval
  rw [z31] at hsz
  obtain ⟨fuel, hf⟩ := h
  obtain ⟨s, r, parts, hs, hk, hx, hb⟩ := chunk_open (by show cs.toList.length = 15; simpa using hsz) (show DataW.trod enc Try.prog w 0 (fun _ => true) true fuel 31 cs.toList = some (d, ps) from hf) hw
  refine ⟨s, r, parts, ?_, hk, hx, hb⟩
  unfold R30.v
  congr 1
  apply Array.toList_inj.1
  rw [hs]
  rfl
theorem bools_in {r : Reach} {b0 : Nat} {v : Value} {d : DataW H} {ps : List MemPlace} (hval : Value.okWide Try.prog w r b0 24 v) (h : DataW.Trod enc Try.prog w 0 (fun _ => true) true 24 v d ps) :
    ∃ a c, ∃ Bs : List Bool, v = .slice a Bs.length c ∧ Rd w a (blV Bs) := by
  obtain ⟨a0, l0, c0, rfl⟩ := okWide_slice u24 hval
  obtain ⟨fuel, hf⟩ := h
  obtain ⟨a, rows, c, hcs, _, _, _, hr, hQ, _⟩ := recs_open3 (sz := 1) (Q := fun r => ∃ b : Bool, r = [.bool b] ∧ True) (by decide) u24 z4 (fun n r y hl hy _ => by
    obtain ⟨k, e, _⟩ := DataW.trod_bool u4 hy
    exact ⟨k, e, trivial⟩) hf
  obtain ⟨Bs, hl, hfl, _⟩ := recs_of rows fun r hr => (hQ r hr).2
  simp [Value.cells] at hcs
  obtain ⟨rfl, rfl, rfl⟩ := hcs
  rw [hfl, flatMap_one] at hr
  exact ⟨_, _, Bs, by rw [hl], hr⟩
end
end Go.Proofs.Ytmliokbonkndaaa
