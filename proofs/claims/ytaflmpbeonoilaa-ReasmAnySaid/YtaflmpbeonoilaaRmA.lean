/-
  Own slices that begin within their block: cut from the front, appended to.
-/
import Derived.Test.YtaflmpbeonoilaaShO
import Derived.ArgAppend
import Derived.Test.YtaflmpbeonoilaaShU
import Derived.Test.YtaflmpbeonoilaaRmF
import Derived.Test.YtaflmpbeonoilaaShMv
import Derived.Test.YtaflmpbeonoilaaShM
namespace Go.Sh
open Go
def slO (e : TypeId) (size : Nat) (a : Option Addr) (l c : Nat) (xs : List Value) : HP := fun h =>
  xs.length = l * size ∧ ((a = none ∧ l = 0 ∧ c = 0 ∧ h = fun _ => none) ∨ ∃ g k cur, a = some ⟨g, k, none⟩ ∧ pt g (.cells cur e (0, 0)) h ∧ l ≤ c ∧ c ≤ maxLen ∧ k + c * size ≤ cur.size ∧ (cur.toList.drop k).take (l * size) = xs)
section
variable {W w : World} {L : List HP} {e : TypeId} {size l c : Nat} {a : Option Addr} {xs : List Value}
theorem slP_slO {h : Hl} (hx : slP e size a l c xs h) : slO e size a l c xs h := by
  obtain ⟨hl, hx⟩ := hx
  refine ⟨hl, ?_⟩
  rcases hx with hx | ⟨g, cur, h1, h2, h3, h4, h5, h6⟩
  · exact .inl hx
  · exact .inr ⟨g, 0, cur, h1, h2, h3, h4, by omega, by rw [List.drop_zero]; exact h6⟩
theorem Hs.weak {A B : HP} (h : Hs W L w) (i : Nat) (hi : L[i]? = some A) (hab : ∀ x, A x → B x) : Hs W (L.set i B) w :=
  h.upd i hi fun x hx ax _ => ⟨x, hab x hx, ax, fun _ hk => .inl hk, Fr.refl w⟩
theorem Hs.toO (h : Hs W L w) (i : Nat) (hi : L[i]? = some (slP e size a l c xs)) : Hs W (L.set i (slO e size a l c xs)) w := h.weak i hi fun _ => slP_slO
theorem inB_ofO {x : Hl} (hx : slO e size a l c xs x) (k : Nat) : x k ≠ none ↔ inB a k := by
  obtain ⟨_, hx⟩ := hx
  rcases hx with ⟨rfl, rfl, rfl, rfl⟩ | ⟨b, o, cur, rfl, rfl, _⟩
  · simp [inB]
  · simp only [inB, Option.some.injEq, exists_eq_left', ne_eq]
    constructor
    · intro h
      by_cases hk : k = b
      · exact hk.symm
      · simp [hk] at h
    · rintro rfl; simp
theorem Hs.rdO (h : Hs W L w) (i : Nat) (hi : L[i]? = some (slO e size a l c xs)) : Rd w a xs := by
  obtain ⟨x, ⟨hl, hx⟩, g, lo⟩ := h.look hi
  intro j u hj
  rcases hx with ⟨rfl, rfl, rfl, rfl⟩ | ⟨b, k, cur, rfl, rfl, h1, h2, h3, h4⟩
  · simp at hl; subst hl; simp at hj
  · have hb := g b (.cells cur e (0, 0)) (by simp)
    refine ⟨_, rfl, ?_⟩
    rw [add_mk, cell_at hb]
    rw [← h4, List.getElem?_take] at hj
    split at hj
    · rw [List.getElem?_drop] at hj; simpa using hj
    · cases hj
theorem Hs.lenO (h : Hs W L w) (i : Nat) (hi : L[i]? = some (slO e size a l c xs)) : xs.length = l * size ∧ l ≤ c ∧ c ≤ maxLen := by
  obtain ⟨x, ⟨hl, hx⟩, _, _⟩ := h.look hi
  rcases hx with ⟨_, rfl, rfl, _⟩ | ⟨b, k, cur, _, _, h1, h2, _⟩
  · exact ⟨hl, Nat.le_refl _, Nat.zero_le _⟩
  · exact ⟨hl, h1, h2⟩
theorem Hs.cutO (h : Hs W L w) (i : Nat) (hi : L[i]? = some (slO e size a l c xs)) {j : Nat} (hj : j ≤ l) : Hs W (L.set i (slO e size (if c = j then a else a.map (·.add (j * size))) (l - j) (c - j) (xs.drop (j * size)))) w :=
  h.weak i hi fun x ⟨hl, hx⟩ => by
    refine ⟨by rw [List.length_drop, hl, Nat.sub_mul], ?_⟩
    rcases hx with ⟨rfl, rfl, rfl, rfl⟩ | ⟨b, k, cur, rfl, hp, h1, h2, h3, h4⟩
    · refine .inl ⟨?_, by omega, by omega, rfl⟩
      split <;> rfl
    · by_cases hc : c = j
      · rw [if_pos hc]
        refine .inr ⟨b, k, cur, rfl, hp, by omega, by omega, ?_, ?_⟩
        · have : (c - j) * size = 0 := by rw [hc, Nat.sub_self, Nat.zero_mul]
          omega
        · have e1 : l - j = 0 := by omega
          rw [e1, Nat.zero_mul, List.take_zero, List.drop_eq_nil_of_le]
          rw [hl]
          exact Nat.mul_le_mul_right _ (by omega)
      · rw [if_neg hc]
        refine .inr ⟨b, k + j * size, cur, by simp, hp, by omega, by omega, ?_, ?_⟩
        · have := Nat.mul_le_mul_right size (show j ≤ c by omega)
          rw [Nat.sub_mul]; omega
        · rw [← h4, List.drop_take, List.drop_drop, Nat.sub_mul]
variable {P : Program} {t ty : TypeId} {bytes : Nat} {z : Value} {inf : TypeInfo}
theorem run_append_roomO (E : ElemT P t e size bytes z inf) {g k sLen sCap : Nat} {cur : Array Value} (hg : w.heap[g]? = some (.cells cur e (0, 0))) {b : Addr} {m d : Nat} {news : List Value} (hl : news.length = m * size) (hnews : Rd w (some b) news) (h1 : ∀ u ∈ news, u.oneCell' = true)
    (hroom : sLen + m ≤ sCap) (hfit : k + sLen * size + news.length ≤ cur.size) :
    Sem.run P (Builtin.append_ #[t, t] ty #[.slice (some ⟨g, k, none⟩) sLen sCap, .slice (some b) m d]) w =
      .ok (.slice (some ⟨g, k, none⟩) (sLen + m) sCap) (w.setRow g (cur.toList.take (k + sLen * size) ++ news ++ cur.toList.drop (k + sLen * size + news.length)).toArray) := by
  have hf := run_firstCells_some (P := P) w inf.size m b m d news (by rw [E.hsize]; exact hl) (fun j u hj => hnews.at hj)
  have hst := run_storeCells_at P g (k + sLen * size) e news 0 cur w hg (by simpa using hfit) h1
  simp only [Nat.add_zero] at hst
  rw [← E.hsize] at hst ⊢
  simp [Builtin.append_, run_underlying E.ht, sizeOf, typeInfo, E.hi, Builtin.lenOf, hroom, hf, hst]
theorem own_slO {B : Nat} (h : Own w B e size a l c xs) : ∃ x, slO e size a l c xs x ∧ ag x w := by
  obtain ⟨x, hx, g⟩ := own_to h
  exact ⟨x, slP_slO hx, g⟩
theorem Hs.appendO (E : ElemT P t e size bytes z inf) (h : Hs W L w) (i : Nat) (hi : L[i]? = some (slO e size a l c xs)) {b : Addr} {m d : Nat} {news : List Value} (hl : news.length = m * size) (hnews : Rd w (some b) news) (h1 : ∀ u ∈ news, u.oneCell' = true) (hn : l + m ≤ 281474976710656) (hb : (l + m) * bytes ≤ 140737488355328)
    {K : Option Addr → Nat → Nat → World → Prop} (hk : ∀ a' c' w', Hs W (L.set i (slO e size a' (l + m) c' (xs ++ news))) w' → Fr (inB a) w w' → K a' (l + m) c' w') :
    ∃ a' l' c' w', Sem.run P (Builtin.append_ #[t, t] ty #[.slice a l c, .slice (some b) m d]) w = .ok (.slice a' l' c') w' ∧ K a' l' c' w' := by
  have hr := h.rdO i hi
  obtain ⟨hlen, hlc, hcm⟩ := h.lenO i hi
  have fresh : ∀ {a' : Option Addr} {c' : Nat} {w' : World}, Own w' w.heap.size e size a' (l + m) c' (xs ++ news) → Same w w' → Hs W (L.set i (slO e size a' (l + m) c' (xs ++ news))) w' := by
    intro a' c' w' ho hs
    refine h.upd i hi fun x hx g lo => ?_
    obtain ⟨y, hy, gy⟩ := own_slO ho
    exact ⟨y, hy, gy, fun k hk => .inr (ho.base_le ((inB_ofO hy k).1 hk)).1, hs.mono fun _ _ x => x.elim⟩
  have dec : a = none ∨ ∃ g k cur, a = some ⟨g, k, none⟩ ∧ w.heap[g]? = some (.cells cur e (0, 0)) ∧ k + c * size ≤ cur.size ∧ (cur.toList.drop k).take (l * size) = xs := by
    obtain ⟨x, ⟨_, hx⟩, g, _⟩ := h.look hi
    rcases hx with ⟨h, _⟩ | ⟨b, k, cur, h, rfl, h1, h2, h3, h4⟩
    · exact .inl h
    · exact .inr ⟨b, k, cur, h, g b _ (by simp), h3, h4⟩
  rcases dec with rfl | ⟨g, k, cur, rfl, hg, hc, hx⟩
  · have hz : l = 0 ∧ c = 0 ∧ xs = [] := by
      obtain ⟨x, ⟨hl, hx⟩, _, _⟩ := h.look hi
      rcases hx with ⟨_, rfl, rfl, _⟩ | ⟨b, k, cur, h, _⟩
      · exact ⟨rfl, rfl, by simpa using hl⟩
      · cases h
    obtain ⟨rfl, rfl, rfl⟩ := hz
    obtain ⟨a', l', c', w', hr, rfl, ho, hf, hs⟩ := append_own (ty := ty) (base := w.heap.size) (d := d) E (Own.nil w w.heap.size e size) hl hnews h1 hn hb (Nat.le_refl _)
    have hsm : Same w w' := hf.mono fun _ _ ⟨_, e, _⟩ => by cases e
    exact ⟨a', _, c', w', hr, hk a' c' w' (fresh ho hsm) hf⟩
  · by_cases hroom : l + m ≤ c
    · have hm1 : (l + m) * size ≤ c * size := Nat.mul_le_mul_right _ hroom
      rw [Nat.add_mul] at hm1
      have hrun := run_append_roomO (ty := ty) (d := d) (k := k) E hg hl hnews h1 hroom (by rw [hl]; omega)
      rw [setRow_sb hg] at hrun
      have hcl : cur.toList.length = cur.size := by simp
      have e1 : (cur.toList.take (k + l * size)).length = k + l * size := by rw [List.length_take, hcl]; omega
      obtain ⟨nc, hnc⟩ : ∃ nc, nc = (cur.toList.take (k + l * size) ++ news ++ cur.toList.drop (k + l * size + news.length)).toArray := ⟨_, rfl⟩
      rw [← hnc] at hrun
      have f1 : k + c * size ≤ nc.size := by
        rw [hnc]
        simp only [List.size_toArray, List.length_append, List.length_take, List.length_drop, hl, hcl]
        omega
      have f2 : (nc.toList.drop k).take ((l + m) * size) = xs ++ news := by
        rw [hnc]
        simp only
        rw [List.append_assoc, List.drop_append_of_le_length (by rw [e1]; omega), List.drop_take, show k + l * size - k = l * size by omega, hx]
        rw [← List.append_assoc, List.take_append_of_le_length (by rw [List.length_append, hlen, hl, Nat.add_mul]; exact Nat.le_refl _), List.take_of_length_le (by rw [List.length_append, hlen, hl, Nat.add_mul]; exact Nat.le_refl _)]
      clear hnc
      refine ⟨_, _, _, _, hrun, hk _ _ _ ?_ ((Fr.refl w).sb fun _ => ⟨_, rfl, rfl⟩)⟩
      refine h.upd i hi fun x hx gx lo => ?_
      refine ⟨_, ⟨by rw [List.length_append, hlen, hl, Nat.add_mul], .inr ⟨g, k, nc, rfl, rfl, hroom, hcm, f1, f2⟩⟩, fun q o e => ?_, fun q hq => .inl ?_, (Fr.refl w).sb fun hb => ?_⟩
      · by_cases hq : q = g
        · subst hq
          simp at e; subst e
          exact sb_same hg
        · simp [hq] at e
      · by_cases hq' : q = g
        · subst hq'; exact (inB_ofO hx q).2 ⟨_, rfl, rfl⟩
        · simp [hq'] at hq
      · exact (inB_ofO hx g).2 ⟨_, rfl, rfl⟩
    · obtain ⟨v', w', hrun, ho, hgr⟩ := run_append_arg_grows (P := P) w t ty e inf z size bytes E.ht E.hi E.hz E.hsize E.hby E.hzs E.pos ⟨g, k, none⟩ l c xs hlen (fun j u hj => hr.at hj) b m d news hl (fun j u hj => hnews.at hj) (by omega) (by unfold maxLen; omega) hb
      have hsm : Same w w' := ⟨hgr.os, hgr.tape, hgr.output, hgr.size, fun q hq _ => hgr.block q hq fun e => by cases e⟩
      rcases ho.2 with ⟨rfl, h0⟩ | ⟨g', cap, cur', rfl, _⟩
      · have hz : l + m = 0 := h0
        exact ⟨none, 0, 0, w', hrun, by
          have := hk none 0 w' (fresh (by rw [hz] at ho ⊢; exact ho) hsm) (hsm.mono fun _ _ x => x.elim)
          rw [hz] at this
          exact this⟩
      · exact ⟨_, _, _, w', hrun, hk _ _ w' (fresh ho hsm) (hsm.mono fun _ _ x => x.elim)⟩
/-- one cell is appended, as the code does it: out of a block of its own -/
theorem Hs.pushO (E : ElemT P t e size bytes z inf) (h : Hs W L w) (i : Nat) (hi : L[i]? = some (slO e size a l c xs)) {news : Array Value} (hz : news.size = size) (h1 : ∀ u ∈ news.toList, u.oneCell' = true) (hn : l + 1 ≤ 281474976710656) (hb : (l + 1) * bytes ≤ 140737488355328)
    {b : Nat} {w1 : World} (hs : Same w w1) (hb1 : w1.heap[b]? = some (.cells news e (0, 0)))
    {K : Option Addr → Nat → Nat → World → Prop} (hk : ∀ a' c' w', Hs W (L.set i (slO e size a' (l + 1) c' (xs ++ news.toList))) w' → K a' (l + 1) c' w') :
    ∃ a' l' c' w', Sem.run P (Builtin.append_ #[t, t] ty #[.slice a l c, .slice (some (Addr.mk b 0 none)) 1 1]) w1 = .ok (.slice a' l' c') w' ∧ K a' l' c' w' := by
  refine (h.same hs).appendO E i hi (by simp [hz]) (fun j u hj => ⟨_, rfl, ?_⟩) h1 hn hb fun a' c' w' h' _ => hk a' c' w' h'
  rw [add_mk, Nat.zero_add, cell_at hb1]
  simpa using hj
end
end Go.Sh
namespace Go.Sh
open Go
section
variable {W w : World} {L : List HP}
/-- one of many like parts -/
theorem Hs.big_out {α : Type} {F : α → HP} {l : List α} {k : Nat} {x : α} (h : Hs W L w) (i : Nat) (hi : L[i]? = some (bigS (l.map F))) (hk : l[k]? = some x) : Hs W (F x :: L.set i (bigS ((l.eraseIdx k).map F))) w := by
  have hp := bigS_perm (perm_out (l := l.map F) (i := k) (x := F x) (by simp [hk]))
  have e : (l.map F).eraseIdx k = (l.eraseIdx k).map F := by
    rw [List.eraseIdx_eq_take_drop_succ, List.eraseIdx_eq_take_drop_succ, List.map_append, List.map_take, List.map_drop]
  rw [e] at hp
  have hlt := (List.getElem?_eq_some_iff.1 hi).1
  have h4 : Hs W (F x :: (bigS ((l.eraseIdx k).map F) :: L.eraseIdx i)) w := by
    refine (h.focus hi).of_eq ?_
    rw [bigS, hp, bigS, bigS, bigS, star_assoc]
  refine h4.perm (List.Perm.cons _ ?_)
  have e1 : (L.set i (bigS ((l.eraseIdx k).map F)))[i]? = some (bigS ((l.eraseIdx k).map F)) := by simp [hlt]
  have e2 : (L.set i (bigS ((l.eraseIdx k).map F))).eraseIdx i = L.eraseIdx i := by rw [List.eraseIdx_set_eq]
  have := perm_out e1
  rw [e2] at this
  exact this.symm
/-- one more of many like parts, behind the others -/
theorem Hs.big_in {α : Type} {F : α → HP} {l : List α} {x : α} (h : Hs W (F x :: L) w) (i : Nat) (hi : L[i]? = some (bigS (l.map F))) : Hs W (L.set i (bigS ((l ++ [x]).map F))) w := by
  have hlt := (List.getElem?_eq_some_iff.1 hi).1
  have hp : bigS ((l ++ [x]).map F) = star (F x) (bigS (l.map F)) := by
    rw [List.map_append, bigS_append, star_comm]
    simp only [List.map_cons, List.map_nil, bigS, star_emp]
  have p1 : L.Perm (bigS (l.map F) :: L.eraseIdx i) := perm_out hi
  have h1 : Hs W (F x :: (bigS (l.map F) :: L.eraseIdx i)) w := h.perm (List.Perm.cons _ p1)
  have h2 : Hs W (bigS ((l ++ [x]).map F) :: L.eraseIdx i) w := by
    refine h1.of_eq ?_
    rw [bigS, bigS, bigS, hp, star_assoc]
  exact h2.unfocus hlt
theorem Hs.big_rd {α : Type} {F : α → HP} {l : List α} {k : Nat} {x : α} (h : Hs W L w) (i : Nat) (hi : L[i]? = some (bigS (l.map F))) (hk : l[k]? = some x) {e : TypeId} {z : Nat} {a : Option Addr} {n c : Nat} {xs : List Value} (hF : F x = slP e z a n c xs) : Own w W.heap.size e z a n c xs := by
  have := (h.big_out i hi hk).own 0 (by rw [hF]; rfl)
  exact this
end
end Go.Sh
namespace Go.Proofs.Ytaflmpbeonoilaa
open Go Go.Sh
noncomputable def E22i : TypeInfo := (Try.prog.info? 5).getD default
theorem E22 : ElemT Try.prog 22 5 1 1 (.int .u8 0) E22i := ⟨by kernel_rfl, by kernel_rfl, by kernel_rfl, by kernel_rfl, by kernel_rfl, rfl, by decide⟩
noncomputable def E33i : TypeInfo := (Try.prog.info? 30).getD default
theorem E33 : ElemT Try.prog 33 30 1 4 (.int .u32 0) E33i := ⟨by kernel_rfl, by kernel_rfl, by kernel_rfl, by kernel_rfl, by kernel_rfl, rfl, by decide⟩
noncomputable def E68i : TypeInfo := (Try.prog.info? 33).getD default
theorem E68 : ElemT Try.prog 68 33 1 24 (.slice none 0 0) E68i := ⟨by kernel_rfl, by kernel_rfl, by kernel_rfl, by kernel_rfl, by kernel_rfl, rfl, by decide⟩
noncomputable def E49i : TypeInfo := (Try.prog.info? 39).getD default
theorem E49 : ElemT Try.prog 49 39 5 40 (R38.v R38.z) E49i := ⟨by kernel_rfl, by kernel_rfl, by kernel_rfl, by kernel_rfl, by kernel_rfl, rfl, by decide⟩
noncomputable def E46i : TypeInfo := (Try.prog.info? 31).getD default
theorem E46 : ElemT Try.prog 46 31 1 2 (.int .u16 0) E46i := ⟨by kernel_rfl, by kernel_rfl, by kernel_rfl, by kernel_rfl, by kernel_rfl, rfl, by decide⟩
theorem u64 : Try.prog.underlying 64 = some (.map 30 36) := by kernel_rfl
theorem u65 : Try.prog.underlying 65 = some (.map 30 4) := by kernel_rfl
theorem u30 : Try.prog.underlying 30 = some (.int .u32) := by kernel_rfl
theorem z36 : (Try.prog.info? 36).bind (·.zero) = some R35.z.v := by kernel_rfl
theorem z4 : (Try.prog.info? 4).bind (·.zero) = some (.bool false) := by kernel_rfl

/-- a list of numbers, as cells -/
def inV (k : IntKind) (X : List Int) : List Value := X.map (Value.int k)
theorem inV_length (k : IntKind) (X : List Int) : (inV k X).length = X.length := by simp [inV]
theorem inV_one (k : IntKind) (X : List Int) : ∀ u ∈ inV k X, u.oneCell' = true := fun u hu => by
  obtain ⟨x, _, rfl⟩ := List.mem_map.1 hu
  rfl
theorem inV_at {k : IntKind} {X : List Int} {j : Nat} {x : Int} (h : X[j]? = some x) : (inV k X)[j]? = some (.int k x) := by simp [inV, h]

/-- a chunk: its record (whose Body is not looked at), its bytes -/
structure Ch where
  r : R35
  b : List Int
def Ch.rc (x : Ch) (a : Option Addr) (c : Nat) : R35 := { x.r with f13a := a, f13n := x.b.length, f13c := c }
abbrev Ch.tsn (x : Ch) : Int := x.r.f2
def hr (x : R35) (m : Int) : Bool := bitI .and .u8 x.f1 m != 0
abbrev Ch.has (x : Ch) (m : Int) : Bool := hr x.r m
theorem hr_rc (x : Ch) (a : Option Addr) (c : Nat) (m : Int) : hr (x.rc a c) m = x.has m := rfl
/-- a message -/
structure Ms where
  st : Int
  ssn : Int
  pr : Int
  un : Bool
  d : List Int
def Ms.rc (m : Ms) (a : Option Addr) (c : Nat) : R38 := ⟨m.st, m.ssn, m.pr, m.un, a, m.d.length, c⟩
/-- what a table holds -/
structure St where
  lim : Int
  L : List Ch
  F : List Int
  nx : List Int
  wh : List (List Int)
  M : List Ms
def look (L : List Ch) (t : Int) : Option Ch := L.find? fun x => x.tsn == t
def up1 (t : Int) : Int := IntKind.wrap .u32 (t + 1)
def dn1 (t : Int) : Int := IntKind.wrap .u32 (t - 1)
def fit2 (x y : Ch) : Bool := !y.has 2 && (!x.has 1 && (x.r.f3 == y.r.f3 && (x.r.f4 == y.r.f4 && x.has 4 == y.has 4)))
def fitB (L : List Ch) (a b : Int) : Bool :=
  match look L a, look L b with
  | some x, some y => fit2 x y
  | _, _ => false
def goB (L : List Ch) : Nat → Int → Int
  | 0, t => t
  | n + 1, t => if fitB L (dn1 t) t = true then goB L n (dn1 t) else t
def goF (L : List Ch) : Nat → Int → List Int
  | 0, t => [t]
  | n + 1, t => t :: if fitB L t (up1 t) = true then goF L n (up1 t) else []
def rowOf (L : List Ch) (t : Int) : List Int := goF L L.length (goB L L.length t)
/-- a chunk in the program's memory, a row, a message -/
structure Ec where
  a : Option Addr
  c : Nat
  x : Ch
structure Er where
  a : Option Addr
  c : Nat
  l : List Int
structure Em where
  a : Option Addr
  c : Nat
  m : Ms
def Ec.rc (e : Ec) : R35 := e.x.rc e.a e.c
def Em.rc (e : Em) : R38 := e.m.rc e.a e.c
def bodyP (e : Ec) : HP := slP 5 1 e.a e.x.b.length e.c (inV .u8 e.x.b)
def rowP (e : Er) : HP := slP 30 1 e.a e.l.length e.c (inV .u32 e.l)
def datP (e : Em) : HP := slP 5 1 e.a e.m.d.length e.c (inV .u8 e.m.d)
def rowV (rs : List Er) : List Value := rs.map fun e => .slice e.a e.l.length e.c
def msV (ms : List Em) : List Value := ms.flatMap fun e => e.rc.l
theorem rowV_length (rs : List Er) : (rowV rs).length = rs.length := by simp [rowV]
theorem rowV_at {rs : List Er} {j : Nat} {e : Er} (h : rs[j]? = some e) : (rowV rs)[j]? = some (.slice e.a e.l.length e.c) := by simp [rowV, h]
theorem rowV_one (rs : List Er) : ∀ u ∈ rowV rs, u.oneCell' = true := fun u hu => by
  obtain ⟨x, _, rfl⟩ := List.mem_map.1 hu
  rfl
theorem msV_length (ms : List Em) : (msV ms).length = ms.length * 5 := flat_length (f := fun e : Em => e.rc.l) (m := 5) (fun _ => rfl) _
def cMap (es : List Ec) : Int → Option Value := fun k => (es.find? fun e => e.x.tsn == k).map fun e => e.rc.v
def fMap (F : List Int) : Int → Option Value := fun k => if k ∈ F then some (.bool true) else none
structure TD where
  mc : Nat
  mf : Nat
  na : Option Addr
  nc : Nat
  es : List Ec
  rs : List Er
  wa : Option Addr
  wc : Nat
  ms : List Em
  ra : Option Addr
  rc : Nat
def tabC (d : TD) (hd : Int) (s : St) : Array Value := (R69.mk (some d.mc) (some d.mf) hd d.na s.nx.length d.nc s.lim d.wa d.rs.length d.wc d.ra d.ms.length d.rc).c
structure Is (d : TD) (s : St) : Prop where
  L : d.es.map Ec.x = s.L
  wh : d.rs.map Er.l = s.wh
  M : d.ms.map Em.m = s.M
def tabL (tb : Nat) (hd : Int) (d : TD) (s : St) : List HP :=
  [pt tb (.cells (tabC d hd s) 70 (0, 0)), mapV .u32 d.mc (cMap d.es), mapV .u32 d.mf (fMap s.F), slP 31 1 d.na s.nx.length d.nc (inV .u16 s.nx),
   slP 33 1 d.wa d.rs.length d.wc (rowV d.rs), slO 39 5 d.ra d.ms.length d.rc (msV d.ms), bigS (d.es.map bodyP), bigS (d.rs.map rowP), bigS (d.ms.map datP)]
/-- the program's table -/
def tabP (tb : Nat) (hd : Int) (s : St) : HP := ex fun d : TD => pr (Is d s) (bigS (tabL tb hd d s))
section
variable {W w : World} {L M : List HP} {tb : Nat} {hd : Int} {d : TD} {s : St}
theorem tab_open (h : Hs W (tabP tb hd s :: L) w) : ∃ d, Is d s ∧ Hs W (tabL tb hd d s ++ L) w := by
  obtain ⟨d, h⟩ := Hs.cons_ex.1 h
  obtain ⟨i, h⟩ := Hs.cons_pr.1 h
  exact ⟨d, i, Hs.cons_bigS.1 h⟩
theorem tab_shut (i : Is d s) (h : Hs W (tabL tb hd d s ++ L) w) : Hs W (tabP tb hd s :: L) w := Hs.cons_ex.2 ⟨d, Hs.cons_pr.2 ⟨i, Hs.cons_bigS.2 h⟩⟩
theorem cMap_look (es : List Ec) (k : Int) : (es.find? fun e => e.x.tsn == k).map Ec.x = look (es.map Ec.x) k := by
  unfold look
  induction es with
  | nil => rfl
  | cons e es ih =>
    simp only [List.map_cons, List.find?_cons]
    cases e.x.tsn == k with
    | true => rfl
    | false => exact ih
theorem look_map {es : List Ec} {k : Int} {x : Ch} (h : look (es.map Ec.x) k = some x) : ∃ e, (es.find? fun e => e.x.tsn == k) = some e ∧ e.x = x ∧ cMap es k = some (x.rc e.a e.c).v := by
  rw [← cMap_look] at h
  obtain ⟨e, he, rfl⟩ := Option.map_eq_some_iff.1 h
  exact ⟨e, he, rfl, by unfold cMap; rw [he]; rfl⟩
theorem look_none {es : List Ec} {k : Int} (h : look (es.map Ec.x) k = none) : (es.find? fun e => e.x.tsn == k) = none ∧ cMap es k = none := by
  rw [← cMap_look] at h
  have := Option.map_eq_none_iff.1 h
  exact ⟨this, by unfold cMap; rw [this]; rfl⟩
end
end Go.Proofs.Ytaflmpbeonoilaa
