/- Own text: part of the shallow reading of the code and of the contracts that are proved over it. -/
import Derived.Test.YtilenpnpnbdndaaGreatDoorShR
import Derived.SizedLaws
import Derived.Test.YtilenpnpnbdndaaGreatDoorRows
import Derived.Test.YtilenpnpnbdndaaGreatDoorTie
import Derived.Test.YtilenpnpnbdndaaGreatDoorCards
import Derived.ProofKit
import Derived.OpenShut
import Derived.LaidMore
import Derived.Lay
import Derived.Deep.DeepHandedRow
import Derived.Lib.LaidTab
/-
  Arguments that were handed in: slices of whole numbers within records, records field by field.
-/
namespace Go.Sh
open Go
open Go.ChangeShapes Go.WideShapes Go.ChangeAt Go.WideMaps Go.WideElems Go.RowKit
section
variable {H : Type} {enc : TypeId × Value → H} {P : Program} {w : World}
theorem lits_length (k : IntKind) (l : List Int) : (lits (H := H) k l).length = l.length := by simp [lits]
theorem ints_open {t e : TypeId} {k : IntKind} {n : Nat} {cs : List Value} {x : DataW H × List MemPlace} (ht : P.underlying t = some (.slice e)) (he : P.underlying e = some (.int k)) (hc : P.cellsOf e = 1)
    (h : DataW.trod enc P w 0 (fun _ => true) true n t cs = some x) : ∃ (a : Option Addr) (X : List Int) (c : Nat), cs = [.slice a X.length c] ∧ X.length ≤ c ∧ c ≤ maxLen ∧ (a = none → c = 0) ∧ Rd w a (X.map (Value.int k)) ∧ (∀ x ∈ X, (Lit.int k x).wf = true) ∧ (X = [] ∨ ∃ es sp, x.1 = .slice es sp ∧ X.length ≤ es.length + sp.length) := by
  rcases open_ints ht he hc h with ⟨hcs, hx⟩ | ⟨a, len, cap, zs, hcs, _, hl, hm, hz, hx, hcl, hwz⟩
  · exact ⟨none, [], 0, hcs, Nat.le_refl _, Nat.zero_le _, fun _ => rfl, Rd.nil _ _, by simp, .inl rfl⟩
  · simp only [if_true] at hz
    have hlen : (zs.take len).length = len := by rw [List.length_take]; omega
    refine ⟨some a, zs.take len, cap, by rw [hlen]; exact hcs, by omega, hm, (fun h => by cases h), fun j u hj => ⟨a, rfl, ?_⟩, fun x hx => hwz x (List.mem_of_mem_take hx), .inr ⟨_, _, by rw [hx], by rw [lits_length]; omega⟩⟩
    rw [List.getElem?_map, List.getElem?_take] at hj
    split at hj
    · rename_i hjl
      obtain ⟨x, hx⟩ : ∃ x, zs[j]? = some x := ⟨zs[j]'(by omega), by simp⟩
      rw [hx] at hj
      cases hj
      have := hcl j (by omega)
      rw [List.getD_eq_getElem?_getD, hx] at this
      exact this
    · cases hj
theorem wf_u8 {x : Int} (h : (Lit.int .u8 x).wf = true) : 0 ≤ x ∧ x < 256 := by
  simp [Lit.wf, IntKind.min, IntKind.max, IntKind.signed, IntKind.bits] at h; omega
end
end Go.Sh
/-
  What an argument weighs, part by part.
-/
namespace Go.Sh
open Go Go.ChangeShapes Go.WideShapes Go.ChangeAt Go.WideMaps Go.WideElems Go.RowKit
section
variable {H : Type} {enc : TypeId × Value → H} {P : Program} {w : World}
def light (P : Program) (t : TypeId) (d : DataW H) : Prop := ∀ n ∈ d.weights P t, n ≤ reachBytes
theorem light_each {ts : List TypeId} {ds : List (DataW H)} (h : (DataW.weightsEach P ts ds).all (· ≤ reachBytes) = true) {j : Nat} {t : TypeId} {d : DataW H} (ht : ts[j]? = some t) (hd : ds[j]? = some d) : light P t d := fun n hn => by
  have := List.all_eq_true.1 h _ (DataW.weights_mem_each ht hd n hn)
  simpa using this
theorem light_len {t e : TypeId} {es sp : List (DataW H)} (ht : P.underlying t = some (.slice e)) (h : light P t (.slice es sp)) : (es.length + sp.length) * P.bytesOf e ≤ reachBytes := by
  refine h _ ?_
  rw [DataW.weights, ht]
  simp
theorem weightsEach_mem {ts : List TypeId} {ds : List (DataW H)} {j : Nat} {t : TypeId} {d : DataW H} (ht : ts[j]? = some t) (hd : ds[j]? = some d) : ∀ n ∈ d.weights P t, n ∈ DataW.weightsEach P ts ds := DataW.weights_mem_each ht hd
/-- a struct's fields, each by its reading, each light -/
theorem fld_of2 {t : TypeId} {l : List (TypeId × Nat)} {n : Nat} {cs : List Value} {x : DataW H × List MemPlace} (hs : structIs P t l = true) (h : DataW.trod enc P w 0 (fun _ => true) true n t cs = some x) (hw : light P t x.1) :
    ∃ m, ∀ (i : Nat) ty off, l[i]? = some (ty, off) → ∃ y, DataW.trod enc P w 0 (fun _ => true) true m ty ((cs.drop off).take (P.cellsOf ty)) = some y ∧ light P ty y.1 := by
  obtain ⟨fs, hu, hl⟩ := struct_of hs
  obtain ⟨xs, m, _, hxe, _, hxl, hx⟩ := DataW.trod_struct hu h
  refine ⟨m, fun i ty off hi => ?_⟩
  rw [← hl, List.getElem?_map] at hi
  cases hf : fs.toList[i]? with
  | none => rw [hf] at hi; cases hi
  | some f =>
    rw [hf] at hi
    cases hi
    have hf' : fs[i]? = some f := by rw [← Array.getElem?_toList]; exact hf
    have hlt := (Array.getElem?_eq_some_iff.1 hf').1
    have := hx i f hf'
    obtain ⟨y, hy⟩ : ∃ y, xs[i]? = some y := ⟨xs[i]'(by omega), by simp⟩
    refine ⟨y, by rw [this, hy], fun k hk => hw k ?_⟩
    have hxa : x.1 = .agg (xs.map (·.1)) := congrArg Prod.fst hxe
    rw [hxa, DataW.weights, hu]
    exact weightsEach_mem (j := i) (by rw [List.getElem?_map, hf]; rfl) (by rw [List.getElem?_map, hy]; rfl) k hk
end
end Go.Sh
/-
  What is handed in, opened: a deed, settings, a text; the library's table and its two error variables.
-/
namespace Go.Proofs.YtilenpnpnbdndaaGreatDoor
open Go Go.Sh
open Go.ChangeShapes Go.WideShapes Go.ChangeAt Go.WideMaps Go.WideElems Go.RowKit
set_option maxRecDepth 100000
namespace Row
theorem own : ownKnob Tryz.prog.godebug = none := by kernel_rfl
theorem laidOut : laidOutB Tryz.prog = true := by kernel_rfl
theorem gTab : Tryz.prog.globalNamed "internal/strconv.uint64pow10" = some 0 := by kernel_rfl
theorem gRange : Tryz.prog.globalNamed "strconv.ErrRange" = some 5 := by kernel_rfl
theorem gSyntax : Tryz.prog.globalNamed "strconv.ErrSyntax" = some 4 := by kernel_rfl
theorem u3 : Tryz.prog.underlying 3 = some (.int .i64) := by kernel_rfl
theorem u5 : Tryz.prog.underlying 5 = some (.int .u8) := by kernel_rfl
theorem u22 : Tryz.prog.underlying 22 = some (.int .i64) := by kernel_rfl
theorem u23 : Tryz.prog.underlying 23 = some (.int .u16) := by kernel_rfl
theorem u24 : Tryz.prog.underlying 24 = some (.int .u32) := by kernel_rfl
theorem u42 : Tryz.prog.underlying 42 = some (.int .u64) := by kernel_rfl
theorem u4 : Tryz.prog.underlying 4 = some .bool := by kernel_rfl
theorem u9 : Tryz.prog.underlying 9 = some .string := by kernel_rfl
theorem u25 : Tryz.prog.underlying 25 = some (.slice 5) := by kernel_rfl
theorem b5 : Tryz.prog.bytesOf 5 = 1 := by kernel_rfl
theorem c3 : Tryz.prog.cellsOf 3 = 1 := by kernel_rfl
theorem c22 : Tryz.prog.cellsOf 22 = 1 := by kernel_rfl
theorem c5 : Tryz.prog.cellsOf 5 = 1 := by kernel_rfl
theorem c23 : Tryz.prog.cellsOf 23 = 1 := by kernel_rfl
theorem c24 : Tryz.prog.cellsOf 24 = 1 := by kernel_rfl
theorem c42 : Tryz.prog.cellsOf 42 = 1 := by kernel_rfl
theorem c4 : Tryz.prog.cellsOf 4 = 1 := by kernel_rfl
theorem c9 : Tryz.prog.cellsOf 9 = 1 := by kernel_rfl
theorem c25 : Tryz.prog.cellsOf 25 = 1 := by kernel_rfl
theorem c41 : Tryz.prog.cellsOf 41 = 16 := by kernel_rfl
theorem c44 : Tryz.prog.cellsOf 44 = 25 := by kernel_rfl
theorem c48 : Tryz.prog.cellsOf 48 = 3 := by kernel_rfl
theorem c27 : Tryz.prog.cellsOf 27 = 12 := by kernel_rfl
theorem c50 : Tryz.prog.cellsOf 50 = 41 := by kernel_rfl
theorem s27 : structIs Tryz.prog 27 [(22, 0), (3, 1), (3, 2), (3, 3), (3, 4), (5, 5), (3, 6), (23, 7), (24, 8), (4, 9), (25, 10), (9, 11)] = true := by kernel_rfl
theorem s44 : structIs Tryz.prog 44 [(41, 0), (42, 16), (3, 17), (24, 18), (23, 19), (23, 20), (3, 21), (3, 22), (23, 23), (23, 24)] = true := by kernel_rfl
theorem s46 : structIs Tryz.prog 46 [(3, 0), (3, 1), (3, 2)] = true := by kernel_rfl
theorem s48 : structIs Tryz.prog 48 [(3, 0), (3, 1), (3, 2)] = true := by kernel_rfl
theorem s50 : structIs Tryz.prog 50 [(44, 0), (3, 25), (3, 26), (3, 27), (46, 28), (48, 31), (3, 34), (3, 35), (3, 36), (3, 37), (4, 38), (4, 39), (4, 40)] = true := by kernel_rfl
end Row
theorem i8_back {n : Int} (h0 : 0 ≤ n) (h1 : n < 256) : ((n.toNat.toUInt8).toNat : Int) = n := by
  have : n.toNat < 256 := by omega
  simp [Nat.toUInt8, UInt8.toNat_ofNat']
  omega
theorem u8v_of {X : List Int} (h : ∀ x ∈ X, 0 ≤ x ∧ x < 256) : ∃ l : List UInt8, l.length = X.length ∧ X.map (Value.int .u8) = u8v l := by
  refine ⟨X.map fun x => x.toNat.toUInt8, by simp, ?_⟩
  unfold u8v
  rw [List.map_map]
  refine List.map_congr_left fun x hx => ?_
  simp only [Function.comp_apply]
  rw [i8_back (h x hx).1 (h x hx).2]
section
variable {H : Type} {enc : TypeId × Value → H} {w : World}
/-- a deed handed in -/
structure DeedOk (w : World) (R : R26) (d : List UInt8) : Prop where
  good : GoodD ⟨R.c, d⟩
  holds : Holds26 w R d
  len : d.length ≤ 140737488351232
theorem deed_open {n : Nat} {cs : List Value} {x : DataW H × List MemPlace} (hl : cs.length = 12) (h : DataW.trod enc Tryz.prog w 0 (fun _ => true) true n 27 cs = some x) (hw : light Tryz.prog 27 x.1) : ∃ (R : R26) (d : List UInt8), cs = R.l ∧ DeedOk w R d := by
  obtain ⟨m, hf⟩ := fld_of2 Row.s27 h hw
  match cs, hl with
  | [b0, b1, b2, b3, b4, b5, b6, b7, b8, b9, b10, b11], _ =>
    obtain ⟨y0, h0, l0⟩ := hf 0 22 0 rfl
    rw [Row.c22] at h0
    obtain ⟨y1, h1, l1⟩ := hf 1 3 1 rfl
    rw [Row.c3] at h1
    obtain ⟨y2, h2, l2⟩ := hf 2 3 2 rfl
    rw [Row.c3] at h2
    obtain ⟨y3, h3, l3⟩ := hf 3 3 3 rfl
    rw [Row.c3] at h3
    obtain ⟨y4, h4, l4⟩ := hf 4 3 4 rfl
    rw [Row.c3] at h4
    obtain ⟨y5, h5, l5⟩ := hf 5 5 5 rfl
    rw [Row.c5] at h5
    obtain ⟨y6, h6, l6⟩ := hf 6 3 6 rfl
    rw [Row.c3] at h6
    obtain ⟨y7, h7, l7⟩ := hf 7 23 7 rfl
    rw [Row.c23] at h7
    obtain ⟨y8, h8, l8⟩ := hf 8 24 8 rfl
    rw [Row.c24] at h8
    obtain ⟨y9, h9, l9⟩ := hf 9 4 9 rfl
    rw [Row.c4] at h9
    obtain ⟨y10, h10, l10⟩ := hf 10 25 10 rfl
    rw [Row.c25] at h10
    obtain ⟨y11, h11, l11⟩ := hf 11 9 11 rfl
    rw [Row.c9] at h11
    obtain ⟨k0, e0, _, w0⟩ := DataW.trod_int Row.u22 h0
    obtain ⟨k1, e1, _, w1⟩ := DataW.trod_int Row.u3 h1
    obtain ⟨k2, e2, _, w2⟩ := DataW.trod_int Row.u3 h2
    obtain ⟨k3, e3, _, w3⟩ := DataW.trod_int Row.u3 h3
    obtain ⟨k4, e4, _, w4⟩ := DataW.trod_int Row.u3 h4
    obtain ⟨k5, e5, _, w5⟩ := DataW.trod_int Row.u5 h5
    obtain ⟨k6, e6, _, w6⟩ := DataW.trod_int Row.u3 h6
    obtain ⟨k7, e7, _, w7⟩ := DataW.trod_int Row.u23 h7
    obtain ⟨k8, e8, _, w8⟩ := DataW.trod_int Row.u24 h8
    obtain ⟨k9, e9, _⟩ := DataW.trod_bool Row.u4 h9
    obtain ⟨a10, X, q10, e10, _, _, _, hr, hX, hs⟩ := ints_open Row.u25 Row.u5 Row.c5 h10
    obtain ⟨k11, e11, _⟩ := DataW.trod_string Row.u9 h11
    simp at e0 e1 e2 e3 e4 e5 e6 e7 e8 e9 e10 e11
    subst e0; subst e1; subst e2; subst e3; subst e4; subst e5; subst e6; subst e7; subst e8; subst e9; subst e10; subst e11
    obtain ⟨dd, hdl, hdd⟩ := u8v_of fun v hv => wf_u8 (hX v hv)
    have w5 := wf_u8 w5
    have w7 := wf_u16 w7
    have w8 := wf_u32 w8
    have hlen : dd.length ≤ 140737488351232 := by
      rw [hdl]
      rcases hs with rfl | ⟨es, sp, e, hle⟩
      · simp
      · rw [e] at l10
        have := light_len Row.u25 l10
        rw [Row.b5] at this
        unfold reachBytes at this
        omega
    exact ⟨⟨k0, k1, k2, k3, k4, k5, k6, k7, k8, k9, a10, X.length, q10, k11⟩, dd, rfl, ⟨⟨w5.1, by show k5 ≤ 255; omega⟩, w7, ⟨w8.1, by show k8 ≤ 4294967295; omega⟩⟩, ⟨hdl.symm, by rw [← hdd]; exact hr⟩, hlen⟩
theorem deed_in {r : Reach} {b0 : Nat} {v : Value} {d : DataW H} {ps : List MemPlace} (hval : Value.okWide Tryz.prog w r b0 27 v) (hw : light Tryz.prog 27 d) (h : DataW.Trod enc Tryz.prog w 0 (fun _ => true) true 27 v d ps) : ∃ (R : R26) (dd : List UInt8), v = R.v ∧ DeedOk w R dd := by
  obtain ⟨fs, hu, _⟩ := struct_of Row.s27
  obtain ⟨cs, rfl, hsz⟩ := okWide_struct hu hval
  rw [Row.c27] at hsz
  obtain ⟨fuel, hf⟩ := h
  obtain ⟨R, dd, ho, hk⟩ := deed_open (w := w) (enc := enc) (n := fuel) (cs := cs.toList) (x := (d, ps)) (by simpa using hsz) hf hw
  refine ⟨R, dd, ?_, hk⟩
  unfold R26.v
  congr 1
  apply Array.toList_inj.1
  rw [ho]
  rfl
end
theorem tab_eq : (Rows.laid_internal_strconv_uint64pow10 : DataW Unit) = Lib.tabData .u64 Lib.pow10Tab := by kernel_rfl
namespace Row
theorem tTab : (Tryz.prog.globals[0]?).map (·.type) = some 169 := by kernel_rfl
theorem tSyntax : (Tryz.prog.globals[4]?).map (·.type) = some 145 := by kernel_rfl
theorem tRange : (Tryz.prog.globals[5]?).map (·.type) = some 145 := by kernel_rfl
theorem u169 : Tryz.prog.underlying 169 = some (.array 20 42) := by kernel_rfl
theorem c169 : Tryz.prog.cellsOf 169 = 20 := by kernel_rfl
theorem u145 : ∃ ms, Tryz.prog.underlying 145 = some (.interface ms) := ⟨#[("Error", 88)], by kernel_rfl⟩
end Row
theorem err_of {w : World} {fuel : Nat} {cs : List Value} {x : DataW Unit × List MemPlace} {t : TypeId} {ms : Array (String × TypeId)} (hu : Tryz.prog.underlying t = some (.interface ms)) (h : DataW.trod (fun _ => ()) Tryz.prog w 0 (fun _ => true) false fuel t cs = some x) :
    ∃ ev, cs = [ev] ∧ (ev = .nilIface ∨ ∃ te pe, ev = .iface te pe) := by
  cases fuel with
  | zero => cases h
  | succ n =>
    unfold DataW.trod at h
    rw [hu] at h
    split at h <;> first | (cases h; done) | skip
    all_goals simp_all
theorem of_laid {W : World} (h : laidMetH Tryz.prog Rows.scriptLinesRow.laid W) : TB W := by
  rw [MakeChecks.laidMetH_plain _ _ _ (by kernel_rfl)] at h
  obtain ⟨ps, ⟨_, _, _, _, _, _, _, _, _, _, ⟨_, _, _, _, _, _, _, _, _, _, ⟨g2, t2, cs2, f2, p2, q2, hg2, ht2, hv2, hd2, ⟨_, _, _, _, _, _, _, _, _, _, ⟨g4, t4, cs4, f4, p4, q4, hg4, ht4, hv4, hd4, ⟨g5, t5, cs5, f5, p5, q5, hg5, ht5, hv5, hd5, _, _⟩, _⟩, _⟩, _⟩, _⟩, _⟩, _⟩ := h
  obtain rfl := Option.some.inj (Row.gTab.symm.trans hg2)
  obtain rfl := Option.some.inj (Row.tTab.symm.trans ht2)
  obtain rfl := Option.some.inj (Row.gRange.symm.trans hg4)
  obtain rfl := Option.some.inj (Row.tRange.symm.trans ht4)
  obtain rfl := Option.some.inj (Row.gSyntax.symm.trans hg5)
  obtain rfl := Option.some.inj (Row.tSyntax.symm.trans ht5)
  obtain ⟨ms, hu⟩ := Row.u145
  refine ⟨?_, ?_, ?_⟩
  · unfold Lib.TabIs
    rw [tab_eq] at hd2
    rw [hv2, ← Lib.cells_of_tab Row.u169 Row.u42 Row.c42 Row.c169 hd2]
  · obtain ⟨ev, he, hc⟩ := err_of hu hd5
    refine ⟨ev, ?_, hc⟩
    rw [World.var?_cell hg5 hv5 0, ← Array.getElem?_toList, he]
    rfl
  · obtain ⟨ev, he, hc⟩ := err_of hu hd4
    refine ⟨ev, ?_, hc⟩
    rw [World.var?_cell hg4 hv4 0, ← Array.getElem?_toList, he]
    rfl
end Go.Proofs.YtilenpnpnbdndaaGreatDoor
/-
  A world for the witness: all the listed variables laid.
-/
namespace Go.Proofs.YtilenpnpnbdndaaGreatDoor
open Go Go.Sh
open Go.ChangeShapes Go.WideShapes Go.ChangeAt Go.WideMaps Go.WideElems Go.RowKit
set_option maxRecDepth 100000
noncomputable def laidWorld (os : Os) : World := World.laidAll Tryz.prog os Rows.scriptLinesRow.laid
theorem laid_met (os : Os) (args : Array Value) : laidMetH Tryz.prog Rows.scriptLinesRow.laid ((laidWorld os).forCall (fun _ _ => 0) ⟨#[], args, []⟩).memory := by
  rw [MakeChecks.laidMetH_plain _ _ _ (by kernel_rfl)]
  exact laidMet_laidAll _ (by kernel_rfl) (by kernel_rfl)
section
variable {H : Type} {enc : TypeId × Value → H}
theorem witness_at {C : Checked} {os : Os} {f : FuncId} {fn : Func} {s : OpenSpec} {conds : List PathCond} {apart : Bool} {laid : List (String × DataW Unit)} (modest : Bool) (w0 : World) (args : Array Value) (hos : w0.os = os)
    (hv : (w0.forCall (fun _ _ => 0) ⟨#[], args, []⟩).variablesZipB C.prog = true)
    (hr : ((w0.forCall (fun _ _ => 0) ⟨#[], args, []⟩).heap.toList.drop C.prog.globals.size).take ((begin C.prog (fun _ _ => 0) default).world.heap.size - C.prog.globals.size) =
      (begin C.prog (fun _ _ => 0) default).world.heap.toList.drop C.prog.globals.size)
    (hok : Input.okWideB C.prog (w0.forCall (fun _ _ => 0) ⟨#[], args, []⟩) f ⟨#[], args, []⟩ = true)
    (hrow : s.preRow enc C.prog fn conds apart laid (w0.forCall (fun _ _ => 0) ⟨#[], args, []⟩).memory args) :
    ∃ (w : World) (tape : Tape) (i : Input), w.os = os ∧ (w.forCall tape i).Shaped C.prog ∧ i.vars = [] ∧ Input.okWide C.prog (w.forCall tape i) .any w.heap.size f i ∧
      s.preRow enc C.prog fn conds apart laid (w.forCall tape i).memory i.args ∧ ({ modest := modest } : Assume).holds C.prog (lone (Frame.enter C.prog f i.args .normal) [] (w.forCall tape i)) :=
  ⟨w0, fun _ _ => 0, ⟨#[], args, []⟩, hos, World.shaped_of_ZipB hv hr, (Input.okWide_of_okWideB (base := 0) hok).1, (Input.okWide_of_okWideB hok).2, hrow, by
    simp only [Assume.holds]
    exact ⟨by simp, by simp, fun _ => Modest.zero, by simp, by simp⟩⟩
theorem small_all {l : List (DataW H)} (hk : Rows.uptoSmall H l = true) : Rows.uptoBulkAll l ≤ 1048576 := of_decide_eq_true hk
theorem text_small {d : DataW H} {s : ByteArray} (h : Rows.uptoBulkAll ([d, .lit (.string s.data.toList)] ++ []) ≤ 1048576) : s.size ≤ 8000000 := by
  simp only [List.append_nil, Rows.uptoBulkAll, Rows.uptoBulk] at h
  have : s.size = s.data.toList.length := rfl
  omega
theorem open_text {w : World} {r : Reach} {b0 : Nat} {v : Value} {d : DataW H} {ps : List MemPlace} (hval : Value.okWide Tryz.prog w r b0 9 v) (h : DataW.Trod enc Tryz.prog w 0 (fun _ => true) true 9 v d ps) : ∃ s : ByteArray, v = .string s ∧ d = .lit (.string s.data.toList) ∧ ps = [] ∧ s.size ≤ maxLen := by
  obtain ⟨s, rfl⟩ := okWide_string Row.u9 hval
  obtain ⟨fuel, hf⟩ := h
  obtain ⟨s', h, hx, hs⟩ := DataW.trod_string Row.u9 hf
  simp [Value.cells] at h
  subst h
  simp only [Prod.mk.injEq] at hx
  exact ⟨s, rfl, hx.1, hx.2, hs⟩
end
end Go.Proofs.YtilenpnpnbdndaaGreatDoor
/- What is proved: the laws named below return true for every input of the row; each argument reads behind the call as it read before. -/
namespace Go.Proofs.YtilenpnpnbdndaaGreatDoor
open Go Go.Sh
open Go.ChangeShapes Go.WideShapes Go.ChangeAt Go.WideMaps Go.WideElems Go.RowKit
set_option maxRecDepth 100000
namespace Row3
theorem func : Tryz.prog.funcs[3]? = some Tryz.f3 := by kernel_rfl
theorem params : Tryz.f3.params.toList = [27, 9] := by kernel_rfl
theorem reads (os : Os) {H : Type} (enc : TypeId × Value → H) : ∃ places, DataW.whole enc Tryz.prog ((laidWorld os).forCall (fun _ _ => 0) ⟨#[], #[(R26.v R26.zz), .string ⟨#[]⟩], []⟩).memory Tryz.f3.params.toList Rows.scriptLinesSpec.vars false (#[(R26.v R26.zz), .string ⟨#[]⟩] : Array Value).toList 8 = some ([.agg [.lit (.int .i64 0), .lit (.int .i64 0), .lit (.int .i64 0), .lit (.int .i64 0), .lit (.int .i64 0), .lit (.int .u8 0), .lit (.int .i64 0), .lit (.int .u16 0), .lit (.int .u32 0), .lit (.bool false), .nil, .lit (.string [])], .lit (.string [])], [], places) :=
  ⟨[], by kernel_rfl⟩
theorem lifted (os : Os) (started : os.Started) (H : Type) (enc : TypeId × Value → H) (F : Stop.Interp) :
    ReturnsInHanded {} Tryz.checked os 3 .any ((Rows.OpenSpec.upto Rows.scriptLinesSpec).preRow enc Tryz.prog Tryz.f3 Rows.scriptLinesUptoRow.domain false Rows.scriptLinesUptoRow.laid) (((Rows.OpenSpec.upto Rows.scriptLinesSpec).at F).post enc Tryz.prog Tryz.f3 false true false false) := by
  obtain ⟨places, hx⟩ := reads os enc
  refine returnsInHanded_of_row (C := Tryz.checked) (s := (Rows.OpenSpec.upto Rows.scriptLinesSpec)) Row.own started (by kernel_rfl) func
    (witness_at (enc := enc) false (laidWorld os) #[(R26.v R26.zz), .string ⟨#[]⟩] rfl (by kernel_rfl) (by kernel_rfl) (by kernel_rfl)
      (OpenSpec.preRow_of_cond 8 hx (by kernel_rfl) (fun k hk => by cases hk; kernel_rfl) (by kernel_rfl) (laid_met os _))) ?_
  intro W base args ds gs before hval0 hW _ hcond hz hL _ _
  have hval : ∀ (j : Nat) t v, Tryz.f3.params[j]? = some t → args[j]? = some v → Value.okWide Tryz.prog W .any base t v := hval0
  have hW' := hW
  obtain ⟨p, q, hA0, hV, rfl, hfz, hnd⟩ := hW
  have hA : DataW.TrodAll enc Tryz.prog W 0 (fun _ => true) true Tryz.f3.params.toList args.toList ds p := hA0
  rw [params] at hA
  have hwt := hz
  rw [params] at hwt
  obtain ⟨v0, v1, d0, d1, p0, p1, rfl, rfl, rfl, h0, h1⟩ := trodAll_two hA
  obtain ⟨rfl, rfl⟩ := trodVars_none hV
  clear hA0 hval0
  have ht := of_laid hL
  have hbulk := small_all (hcond _ rfl)
  have hlt0 : ∀ x ∈ p0, x.block < W.heap.size := fun x hx => by simpa using hW'.lt x (by simp [hx])
  have h0k := h0
  have hlt1 : ∀ x ∈ p1, x.block < W.heap.size := fun x hx => by simpa using hW'.lt x (by simp [hx])
  have h1k := h1
  obtain ⟨R0, D0, rfl, ok0⟩ := deed_in (hval 0 27 v0 (by kernel_rfl) rfl) (light_each hwt (j := 0) rfl rfl) h0
  obtain ⟨s1, rfl, rfl, rfl, hs1⟩ := open_text (hval 1 9 v1 (by kernel_rfl) rfl) h1
  have key := c3 ht ok0.good ok0.holds (by have := ok0.len; omega) (text_small hbulk)
  refine key.mono fun e W' ⟨v, he, hv, hf⟩ => ?_
  subst he; subst hv
  have hbelow : Below W.heap.size W W' := hf.below (Nat.le_refl _) fun _ x => x.elim
  refine ⟨_, rfl, _, _, _, [], p0 ++ ([]), [], hW', ?_, ?_, rfl, hbelow.frame _, fun h => by cases h⟩
  · exact trodAll_mk1 (shut_bool Row.u4 _)
  · exact trodAll_mk2 (Below.trod Row.laidOut (by kernel_rfl) (of_decide_eq_true (by kernel_rfl)) h0k hbelow hlt0) (Below.trod Row.laidOut (by kernel_rfl) (of_decide_eq_true (by kernel_rfl)) h1k hbelow hlt1)
theorem plain (f : FuncId) (fn : Func) (hf : Tryz.pinned.checked.prog.funcNamed "ropewalk/ropewalklaw25.ScriptLines" = some f) (hfn : Tryz.pinned.checked.prog.funcs[f]? = some fn) :
    true = Tryz.pinned.checked.prog.looks [] ∧ ∀ (j : Nat) t, fn.params[j]? = some t → Tryz.pinned.checked.prog.wantsStandIn t = false := by
  obtain rfl : f = 3 := Option.some.inj ((show Tryz.prog.funcNamed "ropewalk/ropewalklaw25.ScriptLines" = some 3 by kernel_rfl).symm.trans hf) |>.symm
  obtain rfl : fn = Tryz.f3 := (Option.some.inj (func.symm.trans hfn)).symm
  refine ⟨by kernel_rfl, fun j t ht => ?_⟩
  have hm : t ∈ [27, 9] := by rw [← params]; simpa using Array.mem_of_getElem? ht
  have hall : ([27, 9].all fun u => !Tryz.prog.wantsStandIn u) = true := by kernel_rfl
  exact (show Tryz.prog.wantsStandIn t = false by simpa using List.all_eq_true.1 hall t hm)
end Row3
theorem scriptLinesUpto_holds : Rows.ScriptLinesUptoSaid :=
  OpenClaim.holds_of_cond 3 Tryz.f3 rfl rfl rfl rfl rfl rfl rfl ⟨rfl, rfl, rfl, rfl, rfl⟩ rfl rfl rfl rfl rfl (by kernel_rfl) Row3.func (by kernel_rfl)
    (of_decide_eq_true (by kernel_rfl)) (by unfold Func.isWrapper; first | (rw [if_pos (by decide +kernel)]; kernel_rfl) | (rw [if_neg (by decide +kernel)]; exact ⟨rfl, rfl⟩))
    (fun os started H enc _ F => by rw [OpenClaim.pre_eq_preRow]; exact Row3.lifted os started H enc F)
theorem scriptLinesUpto_card : Rows.ScriptLinesUptoCardSaid :=
  Claim7.holds_tied_plain_at .later [] _ _ _ _ scriptLinesUpto_holds (fun _ h => by cases h) (by kernel_rfl) (fun _ h => by cases h) scriptLinesUpto_row_tie rfl ⟨rfl, rfl⟩ (by kernel_rfl) rfl Row3.plain (by kernel_rfl)
#print axioms scriptLinesUpto_card
end Go.Proofs.YtilenpnpnbdndaaGreatDoor
