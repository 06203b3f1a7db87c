/-
  Own slices that begin within their block: cut from the front, appended to.
-/
import Derived.Test.YtmliokbonkndaaaShO
import Derived.ArgAppend
import Derived.Test.YtmliokbonkndaaaObF
namespace Go.Sh
open Go
def slO (e : TypeId) (size : Nat) (a : Option Addr) (l c : Nat) (xs : List Value) : HP := fun h =>
  xs.length = l * size ∧ ((a = none ∧ l = 0 ∧ c = 0 ∧ h = fun _ => none) ∨ ∃ g k cur, a = some ⟨g, k, none⟩ ∧ pt g (.cells cur e (0, 0)) h ∧ l ≤ c ∧ c ≤ maxLen ∧ k + c * size ≤ cur.size ∧ (cur.toList.drop k).take (l * size) = xs)
section
variable {W w : World} {L : List HP} {e : TypeId} {size l c : Nat} {a : Option Addr} {xs : List Value}
theorem slP_slO {h : Hl} (hx : slP e size a l c xs h) : slO e size a l c xs h := by
  obtain ⟨hl, hx⟩ := hx
  refine ⟨hl, ?_⟩
  rcases hx with hx | ⟨g, cur, h1, h2, h3, h4, h5, h6⟩
  · exact .inl hx
  · exact .inr ⟨g, 0, cur, h1, h2, h3, h4, by omega, by rw [List.drop_zero]; exact h6⟩
theorem Hs.weak {A B : HP} (h : Hs W L w) (i : Nat) (hi : L[i]? = some A) (hab : ∀ x, A x → B x) : Hs W (L.set i B) w :=
  h.upd i hi fun x hx ax _ => ⟨x, hab x hx, ax, fun _ hk => .inl hk, Fr.refl w⟩
theorem Hs.toO (h : Hs W L w) (i : Nat) (hi : L[i]? = some (slP e size a l c xs)) : Hs W (L.set i (slO e size a l c xs)) w := h.weak i hi fun _ => slP_slO
theorem inB_ofO {x : Hl} (hx : slO e size a l c xs x) (k : Nat) : x k ≠ none ↔ inB a k := by
  obtain ⟨_, hx⟩ := hx
  rcases hx with ⟨rfl, rfl, rfl, rfl⟩ | ⟨b, o, cur, rfl, rfl, _⟩
  · simp [inB]
  · simp only [inB, Option.some.injEq, exists_eq_left', ne_eq]
    constructor
    · intro h
      by_cases hk : k = b
      · exact hk.symm
      · simp [hk] at h
    · rintro rfl; simp
theorem Hs.rdO (h : Hs W L w) (i : Nat) (hi : L[i]? = some (slO e size a l c xs)) : Rd w a xs := by
  obtain ⟨x, ⟨hl, hx⟩, g, lo⟩ := h.look hi
  intro j u hj
  rcases hx with ⟨rfl, rfl, rfl, rfl⟩ | ⟨b, k, cur, rfl, rfl, h1, h2, h3, h4⟩
  · simp at hl; subst hl; simp at hj
  · have hb := g b (.cells cur e (0, 0)) (by simp)
    refine ⟨_, rfl, ?_⟩
    rw [add_mk, cell_at hb]
    rw [← h4, List.getElem?_take] at hj
    split at hj
    · rw [List.getElem?_drop] at hj; simpa using hj
    · cases hj
theorem Hs.lenO (h : Hs W L w) (i : Nat) (hi : L[i]? = some (slO e size a l c xs)) : xs.length = l * size ∧ l ≤ c ∧ c ≤ maxLen := by
  obtain ⟨x, ⟨hl, hx⟩, _, _⟩ := h.look hi
  rcases hx with ⟨_, rfl, rfl, _⟩ | ⟨b, k, cur, _, _, h1, h2, _⟩
  · exact ⟨hl, Nat.le_refl _, Nat.zero_le _⟩
  · exact ⟨hl, h1, h2⟩
theorem Hs.cutO (h : Hs W L w) (i : Nat) (hi : L[i]? = some (slO e size a l c xs)) {j : Nat} (hj : j ≤ l) : Hs W (L.set i (slO e size (if c = j then a else a.map (·.add (j * size))) (l - j) (c - j) (xs.drop (j * size)))) w :=
  h.weak i hi fun x ⟨hl, hx⟩ => by
    refine ⟨by rw [List.length_drop, hl, Nat.sub_mul], ?_⟩
    rcases hx with ⟨rfl, rfl, rfl, rfl⟩ | ⟨b, k, cur, rfl, hp, h1, h2, h3, h4⟩
    · refine .inl ⟨?_, by omega, by omega, rfl⟩
      split <;> rfl
    · by_cases hc : c = j
      · rw [if_pos hc]
        refine .inr ⟨b, k, cur, rfl, hp, by omega, by omega, ?_, ?_⟩
        · have : (c - j) * size = 0 := by rw [hc, Nat.sub_self, Nat.zero_mul]
          omega
        · have e1 : l - j = 0 := by omega
          rw [e1, Nat.zero_mul, List.take_zero, List.drop_eq_nil_of_le]
          rw [hl]
          exact Nat.mul_le_mul_right _ (by omega)
      · rw [if_neg hc]
        refine .inr ⟨b, k + j * size, cur, by simp, hp, by omega, by omega, ?_, ?_⟩
        · have := Nat.mul_le_mul_right size (show j ≤ c by omega)
          rw [Nat.sub_mul]; omega
        · rw [← h4, List.drop_take, List.drop_drop, Nat.sub_mul]
variable {P : Program} {t ty : TypeId} {bytes : Nat} {z : Value} {inf : TypeInfo}
theorem run_append_roomO (E : ElemT P t e size bytes z inf) {g k sLen sCap : Nat} {cur : Array Value} (hg : w.heap[g]? = some (.cells cur e (0, 0))) {b : Addr} {m d : Nat} {news : List Value} (hl : news.length = m * size) (hnews : Rd w (some b) news) (h1 : ∀ u ∈ news, u.oneCell' = true)
    (hroom : sLen + m ≤ sCap) (hfit : k + sLen * size + news.length ≤ cur.size) :
    Sem.run P (Builtin.append_ #[t, t] ty #[.slice (some ⟨g, k, none⟩) sLen sCap, .slice (some b) m d]) w =
      .ok (.slice (some ⟨g, k, none⟩) (sLen + m) sCap) (w.setRow g (cur.toList.take (k + sLen * size) ++ news ++ cur.toList.drop (k + sLen * size + news.length)).toArray) := by
  have hf := run_firstCells_some (P := P) w inf.size m b m d news (by rw [E.hsize]; exact hl) (fun j u hj => hnews.at hj)
  have hst := run_storeCells_at P g (k + sLen * size) e news 0 cur w hg (by simpa using hfit) h1
  simp only [Nat.add_zero] at hst
  rw [← E.hsize] at hst ⊢
  simp [Builtin.append_, run_underlying E.ht, sizeOf, typeInfo, E.hi, Builtin.lenOf, hroom, hf, hst]
theorem own_slO {B : Nat} (h : Own w B e size a l c xs) : ∃ x, slO e size a l c xs x ∧ ag x w := by
  obtain ⟨x, hx, g⟩ := own_to h
  exact ⟨x, slP_slO hx, g⟩
theorem Hs.appendO (E : ElemT P t e size bytes z inf) (h : Hs W L w) (i : Nat) (hi : L[i]? = some (slO e size a l c xs)) {b : Addr} {m d : Nat} {news : List Value} (hl : news.length = m * size) (hnews : Rd w (some b) news) (h1 : ∀ u ∈ news, u.oneCell' = true) (hn : l + m ≤ 281474976710656) (hb : (l + m) * bytes ≤ 140737488355328)
    {K : Option Addr → Nat → Nat → World → Prop} (hk : ∀ a' c' w', Hs W (L.set i (slO e size a' (l + m) c' (xs ++ news))) w' → Fr (inB a) w w' → K a' (l + m) c' w') :
    ∃ a' l' c' w', Sem.run P (Builtin.append_ #[t, t] ty #[.slice a l c, .slice (some b) m d]) w = .ok (.slice a' l' c') w' ∧ K a' l' c' w' := by
  have hr := h.rdO i hi
  obtain ⟨hlen, hlc, hcm⟩ := h.lenO i hi
  have fresh : ∀ {a' : Option Addr} {c' : Nat} {w' : World}, Own w' w.heap.size e size a' (l + m) c' (xs ++ news) → Same w w' → Hs W (L.set i (slO e size a' (l + m) c' (xs ++ news))) w' := by
    intro a' c' w' ho hs
    refine h.upd i hi fun x hx g lo => ?_
    obtain ⟨y, hy, gy⟩ := own_slO ho
    exact ⟨y, hy, gy, fun k hk => .inr (ho.base_le ((inB_ofO hy k).1 hk)).1, hs.mono fun _ _ x => x.elim⟩
  have dec : a = none ∨ ∃ g k cur, a = some ⟨g, k, none⟩ ∧ w.heap[g]? = some (.cells cur e (0, 0)) ∧ k + c * size ≤ cur.size ∧ (cur.toList.drop k).take (l * size) = xs := by
    obtain ⟨x, ⟨_, hx⟩, g, _⟩ := h.look hi
    rcases hx with ⟨h, _⟩ | ⟨b, k, cur, h, rfl, h1, h2, h3, h4⟩
    · exact .inl h
    · exact .inr ⟨b, k, cur, h, g b _ (by simp), h3, h4⟩
  rcases dec with rfl | ⟨g, k, cur, rfl, hg, hc, hx⟩
  · have hz : l = 0 ∧ c = 0 ∧ xs = [] := by
      obtain ⟨x, ⟨hl, hx⟩, _, _⟩ := h.look hi
      rcases hx with ⟨_, rfl, rfl, _⟩ | ⟨b, k, cur, h, _⟩
      · exact ⟨rfl, rfl, by simpa using hl⟩
      · cases h
    obtain ⟨rfl, rfl, rfl⟩ := hz
    obtain ⟨a', l', c', w', hr, rfl, ho, hf, hs⟩ := append_own (ty := ty) (base := w.heap.size) (d := d) E (Own.nil w w.heap.size e size) hl hnews h1 hn hb (Nat.le_refl _)
    have hsm : Same w w' := hf.mono fun _ _ ⟨_, e, _⟩ => by cases e
    exact ⟨a', _, c', w', hr, hk a' c' w' (fresh ho hsm) hf⟩
  · by_cases hroom : l + m ≤ c
    · have hm1 : (l + m) * size ≤ c * size := Nat.mul_le_mul_right _ hroom
      rw [Nat.add_mul] at hm1
      have hrun := run_append_roomO (ty := ty) (d := d) (k := k) E hg hl hnews h1 hroom (by rw [hl]; omega)
      rw [setRow_sb hg] at hrun
      have hcl : cur.toList.length = cur.size := by simp
      have e1 : (cur.toList.take (k + l * size)).length = k + l * size := by rw [List.length_take, hcl]; omega
      obtain ⟨nc, hnc⟩ : ∃ nc, nc = (cur.toList.take (k + l * size) ++ news ++ cur.toList.drop (k + l * size + news.length)).toArray := ⟨_, rfl⟩
      rw [← hnc] at hrun
      have f1 : k + c * size ≤ nc.size := by
        rw [hnc]
        simp only [List.size_toArray, List.length_append, List.length_take, List.length_drop, hl, hcl]
        omega
      have f2 : (nc.toList.drop k).take ((l + m) * size) = xs ++ news := by
        rw [hnc]
        simp only
        rw [List.append_assoc, List.drop_append_of_le_length (by rw [e1]; omega), List.drop_take, show k + l * size - k = l * size by omega, hx]
        rw [← List.append_assoc, List.take_append_of_le_length (by rw [List.length_append, hlen, hl, Nat.add_mul]; exact Nat.le_refl _), List.take_of_length_le (by rw [List.length_append, hlen, hl, Nat.add_mul]; exact Nat.le_refl _)]
      clear hnc
      refine ⟨_, _, _, _, hrun, hk _ _ _ ?_ ((Fr.refl w).sb fun _ => ⟨_, rfl, rfl⟩)⟩
      refine h.upd i hi fun x hx gx lo => ?_
      refine ⟨_, ⟨by rw [List.length_append, hlen, hl, Nat.add_mul], .inr ⟨g, k, nc, rfl, rfl, hroom, hcm, f1, f2⟩⟩, fun q o e => ?_, fun q hq => .inl ?_, (Fr.refl w).sb fun hb => ?_⟩
      · by_cases hq : q = g
        · subst hq
          simp at e; subst e
          exact sb_same hg
        · simp [hq] at e
      · by_cases hq' : q = g
        · subst hq'; exact (inB_ofO hx q).2 ⟨_, rfl, rfl⟩
        · simp [hq'] at hq
      · exact (inB_ofO hx g).2 ⟨_, rfl, rfl⟩
    · obtain ⟨v', w', hrun, ho, hgr⟩ := run_append_arg_grows (P := P) w t ty e inf z size bytes E.ht E.hi E.hz E.hsize E.hby E.hzs E.pos ⟨g, k, none⟩ l c xs hlen (fun j u hj => hr.at hj) b m d news hl (fun j u hj => hnews.at hj) (by omega) (by unfold maxLen; omega) hb
      have hsm : Same w w' := ⟨hgr.os, hgr.tape, hgr.output, hgr.size, fun q hq _ => hgr.block q hq fun e => by cases e⟩
      rcases ho.2 with ⟨rfl, h0⟩ | ⟨g', cap, cur', rfl, _⟩
      · have hz : l + m = 0 := h0
        exact ⟨none, 0, 0, w', hrun, by
          have := hk none 0 w' (fresh (by rw [hz] at ho ⊢; exact ho) hsm) (hsm.mono fun _ _ x => x.elim)
          rw [hz] at this
          exact this⟩
      · exact ⟨_, _, _, w', hrun, hk _ _ w' (fresh ho hsm) (hsm.mono fun _ _ x => x.elim)⟩
/-- one cell is appended, as the code does it: out of a block of its own -/
theorem Hs.pushO (E : ElemT P t e size bytes z inf) (h : Hs W L w) (i : Nat) (hi : L[i]? = some (slO e size a l c xs)) {news : Array Value} (hz : news.size = size) (h1 : ∀ u ∈ news.toList, u.oneCell' = true) (hn : l + 1 ≤ 281474976710656) (hb : (l + 1) * bytes ≤ 140737488355328)
    {b : Nat} {w1 : World} (hs : Same w w1) (hb1 : w1.heap[b]? = some (.cells news e (0, 0)))
    {K : Option Addr → Nat → Nat → World → Prop} (hk : ∀ a' c' w', Hs W (L.set i (slO e size a' (l + 1) c' (xs ++ news.toList))) w' → K a' (l + 1) c' w') :
    ∃ a' l' c' w', Sem.run P (Builtin.append_ #[t, t] ty #[.slice a l c, .slice (some (Addr.mk b 0 none)) 1 1]) w1 = .ok (.slice a' l' c') w' ∧ K a' l' c' w' := by
  refine (h.same hs).appendO E i hi (by simp [hz]) (fun j u hj => ⟨_, rfl, ?_⟩) h1 hn hb fun a' c' w' h' _ => hk a' c' w' h'
  rw [add_mk, Nat.zero_add, cell_at hb1]
  simpa using hj
end
end Go.Sh
namespace Go.Proofs.Ytmliokbonkndaaa
open Go Go.Sh
noncomputable def E77i : TypeInfo := (Try.prog.info? 91).getD default
theorem E77 : ElemT Try.prog 77 91 1 8 (.pointer none) E77i := ⟨by kernel_rfl, by kernel_rfl, by kernel_rfl, by kernel_rfl, by kernel_rfl, rfl, by decide⟩
noncomputable def E54i : TypeInfo := (Try.prog.info? 58).getD default
theorem E54 : ElemT Try.prog 54 58 14 104 (R57.v R57.z) E54i := ⟨by kernel_rfl, by kernel_rfl, by kernel_rfl, by kernel_rfl, by kernel_rfl, rfl, by decide⟩
noncomputable def E23i : TypeInfo := (Try.prog.info? 5).getD default
theorem E23 : ElemT Try.prog 23 5 1 1 (.int .u8 0) E23i := ⟨by kernel_rfl, by kernel_rfl, by kernel_rfl, by kernel_rfl, by kernel_rfl, rfl, by decide⟩
noncomputable def E46i : TypeInfo := (Try.prog.info? 53).getD default
theorem E46 : ElemT Try.prog 46 53 4 32 (R52.v R52.z) E46i := ⟨by kernel_rfl, by kernel_rfl, by kernel_rfl, by kernel_rfl, by kernel_rfl, rfl, by decide⟩
noncomputable def E24i : TypeInfo := (Try.prog.info? 4).getD default
theorem E24 : ElemT Try.prog 24 4 1 1 (.bool false) E24i := ⟨by kernel_rfl, by kernel_rfl, by kernel_rfl, by kernel_rfl, by kernel_rfl, rfl, by decide⟩
noncomputable def E125i : TypeInfo := (Try.prog.info? 3).getD default
theorem E125 : ElemT Try.prog 125 3 1 8 (.int .i64 0) E125i := ⟨by kernel_rfl, by kernel_rfl, by kernel_rfl, by kernel_rfl, by kernel_rfl, rfl, by decide⟩
noncomputable def E27i : TypeInfo := (Try.prog.info? 44).getD default
theorem E27 : ElemT Try.prog 27 44 2 4 (.agg #[.int .u16 0, .int .u16 0]) E27i := ⟨by kernel_rfl, by kernel_rfl, by kernel_rfl, by kernel_rfl, by kernel_rfl, rfl, by decide⟩

/-- bytes -/
def byV (X : List Int) : List Value := X.map (Value.int .u8)
theorem byV_length (X : List Int) : (byV X).length = X.length := by simp [byV]
theorem byV_one (X : List Int) : ∀ u ∈ byV X, u.oneCell' = true := fun u hu => by
  obtain ⟨x, _, rfl⟩ := List.mem_map.1 hu
  rfl
theorem byV_at {X : List Int} {j : Nat} {x : Int} (h : X[j]? = some x) : (byV X)[j]? = some (.int .u8 x) := by simp [byV, h]
/-- a chunk -/
structure En where
  tsn : Int
  path : Int
  times : Int
  sent : Int
  miss : Int
  qk : Bool
  st : Int
  stream : Int
  ssn : Int
  proto : Int
  uno : Bool
  data : List Int
  bg : Bool
  en : Bool
def En.r (e : En) (a : Option Addr) (c : Nat) : R57 := ⟨e.tsn, e.path, e.times, e.sent, e.miss, e.qk, e.st, e.stream, e.ssn, e.proto, e.uno, a, e.data.length, c, e.bg, e.en⟩
def En.z : En := ⟨0, 0, 0, 0, 0, false, 0, 0, 0, 0, false, [], false, false⟩
/-- where one lies -/
def entP (p : Nat × En) : HP := ex fun d : Option Addr × Nat => star (pt p.1 (.cells (p.2.r d.1 d.2).c 93 (0, 0))) (slP 5 1 d.1 p.2.data.length d.2 (byV p.2.data))
def ptrV (es : List (Nat × En)) : List Value := es.map fun p => .pointer (some ⟨p.1, 0, none⟩)
theorem ptrV_length (es : List (Nat × En)) : (ptrV es).length = es.length := by simp [ptrV]
theorem ptrV_at {es : List (Nat × En)} {i : Nat} {p : Nat × En} (h : es[i]? = some p) : (ptrV es)[i]? = some (.pointer (some ⟨p.1, 0, none⟩)) := by simp [ptrV, h]
/-- the program's box -/
def boxL (bb : Nat) (n cum : Int) (a : Option Addr) (c : Nat) (es : List (Nat × En)) : List HP :=
  pt bb (.cells #[.int .i64 n, .int .u32 cum, .slice a es.length c] 79 (0, 0)) :: slO 91 1 a es.length c (ptrV es) :: es.map entP
def dats (es : List (Nat × En)) : List En := es.map (·.2)
/-- a chunk that can be read -/
def RE (w : World) (b : Nat) (e : En) : Prop := ∃ a c, w.heap[b]? = some (.cells (e.r a c).c 93 (0, 0)) ∧ Rd w a (byV e.data) ∧ (a = none → c = 0)
theorem RE.same {w w' : World} {b : Nat} {e : En} (h : RE w b e) (s : Same w w') : RE w' b e := by
  obtain ⟨a, c, h1, h2, h3⟩ := h
  exact ⟨a, c, s.blk h1 fun x => x, h2.fr s fun _ _ x => x, h3⟩
structure RB (w : World) (bb : Nat) (n cum : Int) (es : List (Nat × En)) : Prop where
  blk : ∃ a c, w.heap[bb]? = some (.cells #[.int .i64 n, .int .u32 cum, .slice a es.length c] 79 (0, 0)) ∧ Rd w a (ptrV es) ∧ es.length ≤ c ∧ c ≤ maxLen
  ent : ∀ p ∈ es, RE w p.1 p.2
theorem RB.same {w w' : World} {bb : Nat} {n cum : Int} {es : List (Nat × En)} (h : RB w bb n cum es) (s : Same w w') : RB w' bb n cum es := by
  obtain ⟨⟨a, c, h1, h2, h3⟩, h4⟩ := h
  exact ⟨⟨a, c, s.blk h1 fun x => x, h2.fr s fun _ _ x => x, h3⟩, fun p hp => (h4 p hp).same s⟩
theorem own_nilc {w : World} {base : Nat} {e : TypeId} {s l c : Nat} {a : Option Addr} {xs : List Value} (h : Own w base e s a l c xs) : a = none → c = 0 := by
  rcases h.cases with ⟨_, _, hc⟩ | ⟨g, cur, ha, _⟩
  · exact fun _ => hc
  · intro h; rw [h] at ha; cases ha
section
variable {W w : World} {L M : List HP} {bb : Nat} {n cum : Int} {a : Option Addr} {c : Nat} {es : List (Nat × En)} {b : Nat} {e : En}
/-- one chunk's parts, ahead -/
theorem ent_open {p : Nat × En} (h : Hs W (entP p :: M) w) : ∃ da dc, Hs W (pt p.1 (.cells (p.2.r da dc).c 93 (0, 0)) :: slP 5 1 da p.2.data.length dc (byV p.2.data) :: M) w := by
  obtain ⟨d, h⟩ := Hs.cons_ex.1 h
  refine ⟨d.1, d.2, ?_⟩
  have : Hs W (bigS [pt p.1 (.cells (p.2.r d.1 d.2).c 93 (0, 0)), slP 5 1 d.1 p.2.data.length d.2 (byV p.2.data)] :: M) w := by
    refine h.of_eq ?_
    simp only [bigS, star_emp]
  exact Hs.cons_bigS.1 this
theorem ent_close {p : Nat × En} {da : Option Addr} {dc : Nat} (h : Hs W (pt p.1 (.cells (p.2.r da dc).c 93 (0, 0)) :: slP 5 1 da p.2.data.length dc (byV p.2.data) :: M) w) : Hs W (entP p :: M) w := by
  refine Hs.cons_ex.2 ⟨(da, dc), ?_⟩
  have : Hs W (bigS [pt p.1 (.cells (p.2.r da dc).c 93 (0, 0)), slP 5 1 da p.2.data.length dc (byV p.2.data)] :: M) w := Hs.cons_bigS.2 h
  refine this.of_eq ?_
  simp only [bigS, star_emp]
theorem ent_re {p : Nat × En} (h : Hs W (entP p :: M) w) : RE w p.1 p.2 := by
  obtain ⟨da, dc, h⟩ := ent_open h
  exact ⟨da, dc, h.at 0 rfl, h.rd 1 rfl, own_nilc (h.own 1 rfl)⟩
theorem box_rb (h : Hs W (boxL bb n cum a c es ++ L) w) : RB w bb n cum es := by
  refine ⟨⟨a, c, h.at 0 rfl, h.rdO 1 rfl, (h.lenO 1 rfl).2⟩, fun p hp => ?_⟩
  obtain ⟨i, hi⟩ := List.getElem?_of_mem hp
  have h2 : (boxL bb n cum a c es ++ L)[i + 2]? = some (entP p) := by
    have hlt := (List.getElem?_eq_some_iff.1 hi).1
    rw [List.getElem?_append_left (by simp [boxL]; omega)]
    simp [boxL, hi]
  exact ent_re (h.focus h2)
/-! small functions -/
theorem c31 (h : RB w bb n cum es) (hn : 1 ≤ n) : Calls Try.prog 31 #[.pointer (some ⟨bb, 0, none⟩)] w (rt (KR (.bool true) w)) := by
  obtain ⟨⟨a, c, h1, _⟩, _⟩ := h
  refine F31_ok ?_
  unfold F31
  simp only [rdP_mk, Option.isNone_some, Bool.not_false, br_true, nn_some, add_mk]
  refine ldI_at h1 rfl ?_
  rw [show decide (n > 0) = true from by simp; omega]
  exact KR.mk _ _
def askE (n path now : Int) : Int := if path < 0 ∨ path ≥ n then 90 else if now < 0 ∨ now > 1099511627776 then 1 else 0
theorem c29 (h : RB w bb n cum es) (hn : 1 ≤ n) (path now : Int) : Calls Try.prog 29 #[.pointer (some ⟨bb, 0, none⟩), .int .i64 path, .int .i64 now] w (rt (KR (.int .i64 (askE n path now)) w)) := by
  refine F29_ok ?_
  unfold F29
  simp only [rdP_mk, rdI_mk]
  refine clr (c31 h hn) ⟨_, rfl, ?_⟩
  rw [Bool.not_true, br_false]
  obtain ⟨⟨a, c, h1, _⟩, _⟩ := h
  simp only [br_dec, nn_some, add_mk]
  unfold askE
  refine ⟨fun hp => by rw [if_pos (.inl hp)]; exact KR.mk _ _, fun hp => ldI_at h1 rfl ?_⟩
  refine ⟨fun hq => by rw [if_pos (.inr hq)]; exact KR.mk _ _, fun hq => ?_⟩
  rw [if_neg (by omega)]
  refine ⟨fun hq => by rw [if_pos (.inl hq)]; exact KR.mk _ _, fun hq => ?_⟩
  refine ⟨fun hq => by rw [if_pos (.inr hq)]; exact KR.mk _ _, fun hq => ?_⟩
  rw [if_neg (by omega)]
  exact KR.mk _ _
theorem c12 (h : RB w bb n cum es) (hn : 1 ≤ n) : Calls Try.prog 12 #[.pointer (some ⟨bb, 0, none⟩)] w (rt (KR (.int .u32 cum) w)) := by
  refine F12_ok ?_
  unfold F12
  simp only [rdP_mk]
  refine clr (c31 h hn) ⟨_, rfl, ?_⟩
  obtain ⟨⟨a, c, h1, _⟩, _⟩ := h
  rw [Bool.not_true, br_false]
  simp only [nn_some, add_mk]
  exact ldI_at h1 rfl (KR.mk _ _)
theorem c18 (h : RB w bb n cum es) (hn : 1 ≤ n) : Calls Try.prog 18 #[.pointer (some ⟨bb, 0, none⟩)] w (rt (KR (.int .i64 (es.length : Int)) w)) := by
  refine F18_ok ?_
  unfold F18
  simp only [rdP_mk]
  refine clr (c31 h hn) ⟨_, rfl, ?_⟩
  obtain ⟨⟨a, c, h1, _⟩, _⟩ := h
  rw [Bool.not_true, br_false]
  simp only [nn_some, add_mk]
  exact ldC_at h1 rfl (KR.mk _ _)
def nxt (cum : Int) (k : Nat) : Int := (cum + 1 + k) % 4294967296
theorem c19 (h : RB w bb n cum es) (hn : 1 ≤ n) : Calls Try.prog 19 #[.pointer (some ⟨bb, 0, none⟩)] w (rt fun v w' => v = .int .u32 (nxt cum es.length) ∧ Same w w') := by
  refine F19_ok ?_
  unfold F19
  simp only [rdP_mk]
  refine clr (c31 h hn) ⟨_, rfl, ?_⟩
  rw [Bool.not_true, br_false]
  have s : Same w w.drew := (Fr.refl w).drew
  obtain ⟨⟨a, c, h1, _⟩, _⟩ := h.same s
  simp only [nn_some, add_mk, drw]
  refine ldI_at h1 rfl (ldC_at h1 rfl ⟨?_, s⟩)
  unfold nxt
  rw [wrap_u32_mod, wrap_u32_mod, wrap_u32_mod]
  congr 1
  omega
theorem re_fld (h : RE w b e) : ∃ a c, w.heap[b]? = some (.cells (e.r a c).c 93 (0, 0)) := by
  obtain ⟨a, c, h, _⟩ := h
  exact ⟨a, c, h⟩
theorem c52 (h : RE w b e) : Calls Try.prog 52 #[.pointer (some ⟨b, 0, none⟩)] w (rt (KR (.bool (e.st == 2)) w)) := by
  obtain ⟨a, c, h⟩ := re_fld h
  refine F52_ok ?_
  unfold F52
  simp only [rdP_mk, nn_some, add_mk]
  exact ldI_at h rfl (KR.mk _ _)
theorem c55 (h : RE w b e) : Calls Try.prog 55 #[.pointer (some ⟨b, 0, none⟩)] w (rt (KR (.bool (e.st == 1)) w)) := by
  obtain ⟨a, c, h⟩ := re_fld h
  refine F55_ok ?_
  unfold F55
  simp only [rdP_mk, nn_some, add_mk]
  exact ldI_at h rfl (KR.mk _ _)
theorem c60 (h : RE w b e) : Calls Try.prog 60 #[.pointer (some ⟨b, 0, none⟩)] w (rt (KR (.int .i64 (e.data.length : Int)) w)) := by
  obtain ⟨a, c, h⟩ := re_fld h
  refine F60_ok ?_
  unfold F60
  simp only [rdP_mk, nn_some, add_mk]
  exact ldC_at h rfl (KR.mk _ _)
def En.opn (e : En) : Bool := e.st == 1 || e.st == 2
theorem c59 (h : RE w b e) : Calls Try.prog 59 #[.pointer (some ⟨b, 0, none⟩)] w (rt (KR (.bool e.opn) w)) := by
  obtain ⟨a, c, h⟩ := re_fld h
  refine F59_ok ?_
  unfold F59 En.opn
  simp only [rdP_mk, nn_some, add_mk]
  refine ldI_at h rfl ?_
  show br (e.st == 1) _ _
  cases e1 : e.st == 1 with
  | true => rw [br_true, Bool.true_or]; exact KR.mk _ _
  | false =>
    rw [br_false, Bool.false_or]
    exact ldI_at h rfl (KR.mk _ _)
def En.mk' (e : En) : En := { e with st := 2, miss := 0 }
theorem c54 {p : Nat × En} (h : Hs W (entP p :: M) w) : Calls Try.prog 54 #[.pointer (some ⟨p.1, 0, none⟩)] w (rt fun v w' => v = .tuple #[] ∧ Hs W (entP (p.1, p.2.mk') :: M) w') := by
  refine F54_ok ?_
  unfold F54
  simp only [rdP_mk, nn_some, add_mk]
  obtain ⟨da, dc, h⟩ := ent_open h
  refine h.stc 0 rfl (by simp [R57.c]) fun w1 h1 => h1.stc 0 rfl (by simp [R57.c]) fun w2 h2 => ⟨trivial, ?_⟩
  exact ent_close (p := (p.1, p.2.mk')) (da := da) (dc := dc) h2
/-- a predicate of chunks, as the code calls it -/
def IsP (w : World) (fv : Value) (q : En → Bool) : Prop := ∀ w' b e, Same w w' → RE w' b e → callV Try.prog fv #[.pointer (some ⟨b, 0, none⟩)] w' (.one (.one .bool)) fun r w2 => r = .bool (q e) ∧ Same w' w2
theorem IsP.same {w' : World} {fv : Value} {q : En → Bool} (h : IsP w fv q) (s : Same w w') : IsP w' fv q := fun w2 b e s2 r => h w2 b e (s.trans s2 fun _ _ x => x) r
def flyB (e : En) : Bool := e.st == 1
def mrkB (e : En) : Bool := e.st == 2
def onB (p : Int) (e : En) : Bool := e.st == 1 && e.path == p
theorem is_marked (w : World) : IsP w (.func (.func 52) #[] #[]) mrkB := fun w' b e _ r => callV_of (by kernel_rfl) (call_of (c52 r) fun ed w2 ⟨v, hv, hk⟩ => by
  obtain ⟨rfl, rfl⟩ := hk
  exact ⟨_, hv, rfl, Fr.refl _⟩)
theorem is_flying (w : World) : IsP w (.func (.func 55) #[] #[]) flyB := fun w' b e _ r => callV_of (by kernel_rfl) (call_of (c55 r) fun ed w2 ⟨v, hv, hk⟩ => by
  obtain ⟨rfl, rfl⟩ := hk
  exact ⟨_, hv, rfl, Fr.refl _⟩)
theorem c64 {g : Nat} {p : Int} (h : RE w b e) (hg : w.heap[g]? = some (.cells #[.int .i64 p] 3 (0, 0))) : Calls Try.prog 64 #[.pointer (some ⟨b, 0, none⟩), .pointer (some ⟨g, 0, none⟩)] w (rt fun v w' => v = .bool (onB p e) ∧ Same w w') := by
  refine F64_ok ?_
  unfold F64
  simp only [rdP_mk, rdA_mk, drw]
  have s : Same w w.drew := (Fr.refl w).drew
  have h := h.same s
  have hg := s.blk hg fun x => x
  generalize w.drew = w1 at s h hg ⊢
  refine clr (c55 h) ⟨_, rfl, ?_⟩
  obtain ⟨a, c, hb⟩ := re_fld h
  unfold onB
  cases e1 : e.st == 1 with
  | false => rw [br_false, Bool.false_and]; exact ⟨rfl, s⟩
  | true =>
    rw [br_true, Bool.true_and]
    simp only [nn_some, add_mk]
    exact ldI_at hb rfl (ldI_at hg rfl ⟨rfl, s⟩)
theorem c40 (p : Int) (w : World) : Calls Try.prog 40 #[.int .i64 p] w (rt fun v w' => IsP w' v (onB p) ∧ Same w w') := by
  refine F40_ok ?_
  unfold F40
  simp only [rdI_mk]
  refine (Hs.start w).alc fun g w1 h1 => ⟨fun w' b e s r => callV_of (by kernel_rfl) (call_of (c64 r (s.blk (h1.at 0 rfl) fun x => x)) fun ed w2 ⟨v, hv, hk⟩ => ?_), h1.old⟩
  obtain ⟨rfl, hs⟩ := hk
  exact ⟨_, hv, rfl, hs⟩
end
end Go.Proofs.Ytmliokbonkndaaa
