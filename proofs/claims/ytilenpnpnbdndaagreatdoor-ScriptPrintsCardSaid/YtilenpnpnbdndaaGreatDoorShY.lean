/- Own text: part of the shallow reading of the code and of the contracts that are proved over it. -/
import Derived.Test.YtilenpnpnbdndaaGreatDoorRtO
import Derived.Test.YtilenpnpnbdndaaGreatDoorShAs
import Derived.Test.YtilenpnpnbdndaaGreatDoorShM
import Derived.ProofKit
import Derived.OpenShut
import Derived.SizedLaws
/-
  A whole script: its two ends, its deeds; what its text is, in plain terms.
-/
namespace Go.Proofs.YtilenpnpnbdndaaGreatDoor
open Go Go.Sh
set_option maxRecDepth 100000
def mk58 (p q : R49) : R58 := ⟨p.f0, p.f1, p.f2, p.f3, p.f4, p.f5, p.f6, p.f7, p.f8, p.f9, p.f10, p.f11, p.f12, p.f13, p.f14, p.f15, p.f16, p.f17, p.f18, p.f19, p.f20, p.f21, p.f22, p.f23, p.f24, p.f25, p.f26, p.f27, p.f28, p.f29, p.f30, p.f31, p.f32, p.f33, p.f34, p.f35, p.f36, p.f37, p.f38, p.f39, p.f40, q.f0, q.f1, q.f2, q.f3, q.f4, q.f5, q.f6, q.f7, q.f8, q.f9, q.f10, q.f11, q.f12, q.f13, q.f14, q.f15, q.f16, q.f17, q.f18, q.f19, q.f20, q.f21, q.f22, q.f23, q.f24, q.f25, q.f26, q.f27, q.f28, q.f29, q.f30, q.f31, q.f32, q.f33, q.f34, q.f35, q.f36, q.f37, q.f38, q.f39, q.f40⟩
def mk60 (p q : R49) (a : Option Addr) (n c : Nat) : R60 := ⟨p.f0, p.f1, p.f2, p.f3, p.f4, p.f5, p.f6, p.f7, p.f8, p.f9, p.f10, p.f11, p.f12, p.f13, p.f14, p.f15, p.f16, p.f17, p.f18, p.f19, p.f20, p.f21, p.f22, p.f23, p.f24, p.f25, p.f26, p.f27, p.f28, p.f29, p.f30, p.f31, p.f32, p.f33, p.f34, p.f35, p.f36, p.f37, p.f38, p.f39, p.f40, q.f0, q.f1, q.f2, q.f3, q.f4, q.f5, q.f6, q.f7, q.f8, q.f9, q.f10, q.f11, q.f12, q.f13, q.f14, q.f15, q.f16, q.f17, q.f18, q.f19, q.f20, q.f21, q.f22, q.f23, q.f24, q.f25, q.f26, q.f27, q.f28, q.f29, q.f30, q.f31, q.f32, q.f33, q.f34, q.f35, q.f36, q.f37, q.f38, q.f39, q.f40, a, n, c⟩
theorem mk60_l (p q : R49) (a : Option Addr) (n c : Nat) : (mk60 p q a n c).l = p.l ++ (q.l ++ [.slice a n c]) := rfl
theorem mk58_l (p q : R49) : (mk58 p q).l = p.l ++ q.l := rfl
theorem part_p (p q : R49) : partV Tryz.prog 50 (mk58 p q).c 0 = some p.v := by kernel_rfl
theorem part_q (p q : R49) : partV Tryz.prog 50 (mk58 p q).c 41 = some q.v := by kernel_rfl
section
variable {w : World} {b : Nat} {p q : R49} {a : Option Addr} {n c : Nat}
theorem at_p (h : At w ⟨b, 0, none⟩ (mk60 p q a n c).l) : At w ⟨b, 0, none⟩ p.l := fun j v hj => h j v (by
  rw [mk60_l, List.getElem?_append_left (List.getElem?_eq_some_iff.1 hj).1]; exact hj)
theorem at_q (h : At w ⟨b, 0, none⟩ (mk60 p q a n c).l) : At w ⟨b, 41, none⟩ q.l := fun j v hj => by
  have := h (41 + j) v (by
    rw [mk60_l, List.getElem?_append_right (by rw [R49.l_len]; omega), R49.l_len, Nat.add_sub_cancel_left, List.getElem?_append_left (List.getElem?_eq_some_iff.1 hj).1]; exact hj)
  rw [add_mk] at this ⊢
  rw [← this]
  congr 2
  omega
theorem at_58 (h : At w ⟨b, 0, none⟩ (mk60 p q a n c).l) : At w ⟨b, 0, none⟩ (mk58 p q).l := fun j v hj => h j v (by
  rw [mk60_l, ← List.append_assoc, List.getElem?_append_left (by rw [mk58_l] at hj; exact (List.getElem?_eq_some_iff.1 hj).1)]; exact hj)
theorem at_d (h : At w ⟨b, 0, none⟩ (mk60 p q a n c).l) : w.cell? ((Addr.mk b 0 none).add 82) = some (.slice a n c) := h 82 _ rfl
end
/-! plain -/
abbrev Dd := R26 × List UInt8
/-- a script handed in: its deeds can be read -/
structure ScrOk (w : World) (p q : R49) (a : Option Addr) (ds : List Dd) : Prop where
  gp : GoodC p.c
  gq : GoodC q.c
  rd : Rd w a (ds.flatMap fun d => d.1.l)
  good : ∀ d ∈ ds, GoodD ⟨d.1.c, d.2⟩
  holds : ∀ d ∈ ds, Holds26 w d.1 d.2
  len : ∀ d ∈ ds, d.2.length < 4611686018427387904
theorem ScrOk.same {w w' : World} {p q : R49} {a : Option Addr} {ds : List Dd} (h : ScrOk w p q a ds) (hs : Same w w') : ScrOk w' p q a ds :=
  ⟨h.gp, h.gq, h.rd.fr hs fun _ _ x => x, h.good, fun d hd => (h.holds d hd).same hs, h.len⟩
open Classical in
noncomputable def lineE (d : Dd) : Int := if ∃ t, LineOk t d.1 d.2 then 0 else 1
open Classical in
noncomputable def lineS (d : Dd) : ByteArray := if h : ∃ t, LineOk t d.1 d.2 then lineOf (itemsOf h.choose) ⟨d.1.c, d.2⟩ else ⟨#[]⟩
theorem lineA_fn (d : Dd) : LineA d.1 d.2 (lineS d) (lineE d) := by
  unfold lineS lineE
  by_cases h : ∃ t, LineOk t d.1 d.2
  · rw [dif_pos h, if_pos h]
    exact .inl ⟨h.choose, h.choose_spec, rfl, rfl⟩
  · rw [dif_neg h, if_neg h]
    exact .inr ⟨fun t ht => h ⟨t, ht⟩, rfl, rfl⟩
theorem LineA.fn {R : R26} {dat : List UInt8} {S : ByteArray} {N : Int} (h : LineA R dat S N) : S = lineS (R, dat) ∧ N = lineE (R, dat) := h.one (lineA_fn (R, dat))
open Classical in
noncomputable def confE (R : R49) : Int := if okAll confItems ⟨R.c, []⟩ then 0 else 1
open Classical in
noncomputable def confS (R : R49) : ByteArray := if okAll confItems ⟨R.c, []⟩ then lineOf confItems ⟨R.c, []⟩ else ⟨#[]⟩
theorem setA_fn (R : R49) : SetA R (confS R) (confE R) := by
  unfold confS confE
  by_cases h : okAll confItems ⟨R.c, []⟩
  · rw [if_pos h, if_pos h]; exact .inl ⟨h, rfl, rfl⟩
  · rw [if_neg h, if_neg h]; exact .inr ⟨h, rfl, rfl⟩
theorem SetA.fn {R : R49} {S : ByteArray} {N : Int} (h : SetA R S N) : S = confS R ∧ N = confE R := h.one (setA_fn R)
theorem lineS_size (d : Dd) : (lineS d).size ≤ 786606 := by
  unfold lineS
  split
  · rename_i h
    exact line_short h.choose_spec
  · exact Nat.zero_le _
theorem confS_size (R : R49) : (confS R).size ≤ 6948353 := by
  unfold confS
  split
  · rename_i h
    exact conf_short h
  · exact Nat.zero_le _
theorem lineE_01 (d : Dd) : lineE d = 0 ∨ lineE d = 1 := by
  unfold lineE; split <;> simp
theorem confE_01 (R : R49) : confE R = 0 ∨ confE R = 1 := by
  unfold confE; split <;> simp
/-- the first deed that has no line -/
noncomputable def badAt : List Dd → Nat → Option Nat
  | [], _ => none
  | d :: ds, i => if lineE d = 0 then badAt ds (i + 1) else some i
/-- the lines of deeds, behind what stands already, until it is too long -/
noncomputable def gather : List Dd → List UInt8 → List UInt8
  | [], b => b
  | d :: ds, b => gather ds (if b.length ≤ 4194304 then b ++ (bl (lineS d) ++ [10]) else b)
noncomputable def headB (p q : R49) : List UInt8 := bl (confS p) ++ [10] ++ (bl (confS q) ++ [10])
noncomputable def tailF (b : List UInt8) (ds : List Dd) : ByteArray × Int × Int :=
  if 65536 < ds.length then (⟨#[]⟩, -1, 3)
  else match badAt ds 0 with
    | some i => (⟨#[]⟩, (i : Int), 1)
    | none => if 4194304 < (gather ds b).length then (⟨#[]⟩, -1, 2) else (bs (gather ds b), 0, 0)
noncomputable def printF (p q : R49) (ds : List Dd) : ByteArray × Int × Int :=
  if confE p ≠ 0 ∨ confE q ≠ 0 then (⟨#[]⟩, -1, 1) else tailF (headB p q) ds
def tup3 (x : ByteArray × Int × Int) : Value := .tuple #[.string x.1, .int .i64 x.2.1, .int .i64 x.2.2]
theorem cells_u8v (s : ByteArray) : Lib.strCells s = u8v (bl s) := rfl
end Go.Proofs.YtilenpnpnbdndaaGreatDoor
/-
  Arguments that were handed in: slices of whole numbers, slices of records.
-/
namespace Go.Sh
open Go
open Go.ChangeShapes Go.WideShapes Go.ChangeAt Go.WideMaps Go.WideElems Go.RowKit
theorem wf_u16 {x : Int} (h : (Lit.int .u16 x).wf = true) : 0 ≤ x ∧ x ≤ 65535 := by
  simp [Lit.wf, IntKind.min, IntKind.max, IntKind.signed, IntKind.bits] at h; omega
theorem wf_u32 {x : Int} (h : (Lit.int .u32 x).wf = true) : 0 ≤ x ∧ x < 4294967296 := by
  simp [Lit.wf, IntKind.min, IntKind.max, IntKind.signed, IntKind.bits] at h; omega

theorem cells_list {w : World} {base : Nat} {a : Addr} {n : Nat} {cs : List Value} (h : w.cells? base a n = some cs) : cs.length = n ∧ ∀ (i : Nat), i < n → w.cell? (a.add i) = cs[i]? := by
  unfold World.cells? at h
  split at h
  · have key : ∀ (l : List Nat) (cs : List Value), l.mapM (fun i => w.cell? (a.add i)) = some cs → cs.length = l.length ∧ ∀ (i k : Nat), l[i]? = some k → w.cell? (a.add k) = cs[i]? := by
      intro l
      induction l with
      | nil => intro cs h; simp at h; subst h; simp
      | cons x l ih =>
        intro cs h
        simp only [List.mapM_cons, Option.bind_eq_bind, Option.bind_eq_some_iff] at h
        obtain ⟨v, hv, r, hr, e⟩ := h
        cases e
        obtain ⟨i1, i2⟩ := ih r hr
        refine ⟨by simp [i1], fun i k hk => ?_⟩
        cases i with
        | zero => simp at hk; subst hk; simpa using hv
        | succ i => simp at hk; simpa using i2 i k hk
    obtain ⟨k1, k2⟩ := key _ _ h
    exact ⟨by simpa using k1, fun i hi => k2 i i (by simp [hi])⟩
  · cases h
theorem flatten_at {sz : Nat} (hs : 0 < sz) : ∀ {rows : List (List Value)}, (∀ r ∈ rows, r.length = sz) → ∀ (j : Nat), rows.flatten[j]? = (rows[j / sz]?).bind (·[j % sz]?)
  | [], _, j => by simp
  | r :: rows, h, j => by
    have hr := h r (by simp)
    rw [List.flatten_cons]
    by_cases hj : j < sz
    · rw [List.getElem?_append_left (by omega), Nat.div_eq_of_lt hj, Nat.mod_eq_of_lt hj]; rfl
    · have ih := flatten_at hs (rows := rows) (fun q hq => h q (List.mem_cons_of_mem _ hq)) (j - sz)
      rw [List.getElem?_append_right (by omega), hr, ih]
      have e1 : j / sz = (j - sz) / sz + 1 := by rw [Nat.div_eq_sub_div hs (by omega)]
      have e2 : j % sz = (j - sz) % sz := Nat.mod_eq_sub_mod (by omega)
      rw [e1, e2]; rfl
/-- a struct's fields: their types and places -/
def structIs (P : Program) (t : TypeId) (l : List (TypeId × Nat)) : Bool :=
  match P.underlying t with
  | some (.struct fs) => decide (fs.toList.map (fun f => (f.type, f.offset)) = l)
  | _ => false
theorem struct_of {P : Program} {t : TypeId} {l : List (TypeId × Nat)} (h : structIs P t l = true) : ∃ fs, P.underlying t = some (.struct fs) ∧ fs.toList.map (fun f => (f.type, f.offset)) = l := by
  unfold structIs at h
  split at h
  · rename_i fs e
    exact ⟨fs, e, of_decide_eq_true h⟩
  · cases h
end Go.Sh
/-
  Arguments that were handed in: slices of whole numbers within records, records field by field.
-/
namespace Go.Sh
open Go
open Go.ChangeShapes Go.WideShapes Go.ChangeAt Go.WideMaps Go.WideElems Go.RowKit
section
variable {H : Type} {enc : TypeId × Value → H} {P : Program} {w : World}
theorem lits_length (k : IntKind) (l : List Int) : (lits (H := H) k l).length = l.length := by simp [lits]
theorem ints_open {t e : TypeId} {k : IntKind} {n : Nat} {cs : List Value} {x : DataW H × List MemPlace} (ht : P.underlying t = some (.slice e)) (he : P.underlying e = some (.int k)) (hc : P.cellsOf e = 1)
    (h : DataW.trod enc P w 0 (fun _ => true) true n t cs = some x) : ∃ (a : Option Addr) (X : List Int) (c : Nat), cs = [.slice a X.length c] ∧ X.length ≤ c ∧ c ≤ maxLen ∧ (a = none → c = 0) ∧ Rd w a (X.map (Value.int k)) ∧ (∀ x ∈ X, (Lit.int k x).wf = true) ∧ (X = [] ∨ ∃ es sp, x.1 = .slice es sp ∧ X.length ≤ es.length + sp.length) := by
  rcases open_ints ht he hc h with ⟨hcs, hx⟩ | ⟨a, len, cap, zs, hcs, _, hl, hm, hz, hx, hcl, hwz⟩
  · exact ⟨none, [], 0, hcs, Nat.le_refl _, Nat.zero_le _, fun _ => rfl, Rd.nil _ _, by simp, .inl rfl⟩
  · simp only [if_true] at hz
    have hlen : (zs.take len).length = len := by rw [List.length_take]; omega
    refine ⟨some a, zs.take len, cap, by rw [hlen]; exact hcs, by omega, hm, (fun h => by cases h), fun j u hj => ⟨a, rfl, ?_⟩, fun x hx => hwz x (List.mem_of_mem_take hx), .inr ⟨_, _, by rw [hx], by rw [lits_length]; omega⟩⟩
    rw [List.getElem?_map, List.getElem?_take] at hj
    split at hj
    · rename_i hjl
      obtain ⟨x, hx⟩ : ∃ x, zs[j]? = some x := ⟨zs[j]'(by omega), by simp⟩
      rw [hx] at hj
      cases hj
      have := hcl j (by omega)
      rw [List.getD_eq_getElem?_getD, hx] at this
      exact this
    · cases hj
/-- a struct's fields, each by its reading -/
theorem fld_of {t : TypeId} {l : List (TypeId × Nat)} {n : Nat} {cs : List Value} {x : DataW H × List MemPlace} (hs : structIs P t l = true) (h : DataW.trod enc P w 0 (fun _ => true) true n t cs = some x) :
    ∃ m, ∀ (i : Nat) ty off, l[i]? = some (ty, off) → ∃ y, DataW.trod enc P w 0 (fun _ => true) true m ty ((cs.drop off).take (P.cellsOf ty)) = some y := by
  obtain ⟨fs, hu, hl⟩ := struct_of hs
  obtain ⟨xs, m, _, _, _, hxl, hx⟩ := DataW.trod_struct hu h
  refine ⟨m, fun i ty off hi => ?_⟩
  rw [← hl, List.getElem?_map] at hi
  cases hf : fs.toList[i]? with
  | none => rw [hf] at hi; cases hi
  | some f =>
    rw [hf] at hi
    cases hi
    have hf' : fs[i]? = some f := by rw [← Array.getElem?_toList]; exact hf
    have hlt := (Array.getElem?_eq_some_iff.1 hf').1
    have := hx i f hf'
    obtain ⟨y, hy⟩ : ∃ y, xs[i]? = some y := ⟨xs[i]'(by omega), by simp⟩
    exact ⟨y, by rw [this, hy]⟩
theorem recs_of {α : Type} {f : α → List Value} {ok : α → Prop} : ∀ (rows : List (List Value)), (∀ r ∈ rows, ∃ q, r = f q ∧ ok q) → ∃ l : List α, l.length = rows.length ∧ rows.flatten = l.flatMap f ∧ ∀ q ∈ l, ok q
  | [], _ => ⟨[], rfl, rfl, by simp⟩
  | r :: rows, h => by
    obtain ⟨l, h1, h2, h3⟩ := recs_of rows fun q hq => h q (List.mem_cons_of_mem _ hq)
    obtain ⟨q, rfl, hq⟩ := h r List.mem_cons_self
    refine ⟨q :: l, by simp [h1], by rw [List.flatten_cons, h2]; rfl, fun x hx => ?_⟩
    rcases List.mem_cons.1 hx with rfl | hx
    · exact hq
    · exact h3 x hx
theorem wf_u8 {x : Int} (h : (Lit.int .u8 x).wf = true) : 0 ≤ x ∧ x < 256 := by
  simp [Lit.wf, IntKind.min, IntKind.max, IntKind.signed, IntKind.bits] at h; omega
end
end Go.Sh
/-
  What an argument weighs, part by part.
-/
namespace Go.Sh
open Go Go.ChangeShapes Go.WideShapes Go.ChangeAt Go.WideMaps Go.WideElems Go.RowKit
section
variable {H : Type} {enc : TypeId × Value → H} {P : Program} {w : World}
def light (P : Program) (t : TypeId) (d : DataW H) : Prop := ∀ n ∈ d.weights P t, n ≤ reachBytes
theorem light_each {ts : List TypeId} {ds : List (DataW H)} (h : (DataW.weightsEach P ts ds).all (· ≤ reachBytes) = true) {j : Nat} {t : TypeId} {d : DataW H} (ht : ts[j]? = some t) (hd : ds[j]? = some d) : light P t d := fun n hn => by
  have := List.all_eq_true.1 h _ (DataW.weights_mem_each ht hd n hn)
  simpa using this
theorem weightsAll_mem {e : TypeId} : ∀ {ds : List (DataW H)} {d : DataW H}, d ∈ ds → ∀ n ∈ d.weights P e, n ∈ DataW.weightsAll P e ds
  | a :: ds, d, hd, n, hn => by
    rw [DataW.weightsAll, List.mem_append]
    rcases List.mem_cons.1 hd with rfl | hd
    · exact .inl hn
    · exact .inr (weightsAll_mem hd n hn)
theorem light_elem {t e : TypeId} {es sp : List (DataW H)} (ht : P.underlying t = some (.slice e)) (h : light P t (.slice es sp)) {d : DataW H} (hd : d ∈ es) : light P e d := fun n hn => by
  refine h n ?_
  rw [DataW.weights, ht]
  simp only [List.mem_cons, List.mem_append]
  exact .inr (.inl (weightsAll_mem hd n hn))
theorem light_len {t e : TypeId} {es sp : List (DataW H)} (ht : P.underlying t = some (.slice e)) (h : light P t (.slice es sp)) : (es.length + sp.length) * P.bytesOf e ≤ reachBytes := by
  refine h _ ?_
  rw [DataW.weights, ht]
  simp
theorem weightsEach_mem {ts : List TypeId} {ds : List (DataW H)} {j : Nat} {t : TypeId} {d : DataW H} (ht : ts[j]? = some t) (hd : ds[j]? = some d) : ∀ n ∈ d.weights P t, n ∈ DataW.weightsEach P ts ds := DataW.weights_mem_each ht hd
/-- a struct's fields, each by its reading, each light -/
theorem fld_of2 {t : TypeId} {l : List (TypeId × Nat)} {n : Nat} {cs : List Value} {x : DataW H × List MemPlace} (hs : structIs P t l = true) (h : DataW.trod enc P w 0 (fun _ => true) true n t cs = some x) (hw : light P t x.1) :
    ∃ m, ∀ (i : Nat) ty off, l[i]? = some (ty, off) → ∃ y, DataW.trod enc P w 0 (fun _ => true) true m ty ((cs.drop off).take (P.cellsOf ty)) = some y ∧ light P ty y.1 := by
  obtain ⟨fs, hu, hl⟩ := struct_of hs
  obtain ⟨xs, m, _, hxe, _, hxl, hx⟩ := DataW.trod_struct hu h
  refine ⟨m, fun i ty off hi => ?_⟩
  rw [← hl, List.getElem?_map] at hi
  cases hf : fs.toList[i]? with
  | none => rw [hf] at hi; cases hi
  | some f =>
    rw [hf] at hi
    cases hi
    have hf' : fs[i]? = some f := by rw [← Array.getElem?_toList]; exact hf
    have hlt := (Array.getElem?_eq_some_iff.1 hf').1
    have := hx i f hf'
    obtain ⟨y, hy⟩ : ∃ y, xs[i]? = some y := ⟨xs[i]'(by omega), by simp⟩
    refine ⟨y, by rw [this, hy], fun k hk => hw k ?_⟩
    have hxa : x.1 = .agg (xs.map (·.1)) := congrArg Prod.fst hxe
    rw [hxa, DataW.weights, hu]
    exact weightsEach_mem (j := i) (by rw [List.getElem?_map, hf]; rfl) (by rw [List.getElem?_map, hy]; rfl) k hk
end
end Go.Sh
