/-
  Chunks make the same messages in whatever order they come (plain): blocks of chunks, what is told.
-/
import Derived.Test.YtaflmpbeonoilaaRmRi
namespace Go.Proofs.Ytaflmpbeonoilaa
open Go Go.Sh Go.RowKit
/-- a message, cut -/
structure Bk where
  f : Int
  chs : List Ch
  st : Int
  ssn : Int
  pr : Int
  un : Bool
def Bk.n (k : Bk) : Nat := k.chs.length - 1
def Bk.row (k : Bk) : List Int := numsN k.f k.n
def Bk.d (k : Bk) : List Int := k.chs.flatMap Ch.b
def Bk.msg (k : Bk) : Ms := ⟨k.st, if k.un = true then 0 else k.ssn, k.pr, k.un, k.d⟩
structure BkOk (k : Bk) : Prop where
  rng : 0 ≤ k.f ∧ k.f < 4294967296
  ne : k.chs ≠ []
  few : k.chs.length ≤ 20000
  tsn : ∀ (j : Nat) x, k.chs[j]? = some x → x.tsn = (k.f + (j : Int)) % 4294967296
  kind : ∀ x ∈ k.chs, x.r.f0 = 0 ∧ x.b ≠ [] ∧ x.b.length ≤ 7 ∧ x.r.f3 = k.st ∧ x.r.f4 = k.ssn ∧ x.has 4 = k.un
  bg : ∀ (j : Nat) x, k.chs[j]? = some x → x.has 2 = decide (j = 0)
  en : ∀ (j : Nat) x, k.chs[j]? = some x → x.has 1 = decide (j + 1 = k.chs.length)
  pr : ∀ x, k.chs[0]? = some x → x.r.f5 = k.pr
  st4 : 0 ≤ k.st ∧ k.st < 4
def ordB (st : Int) (k : Bk) : Bool := !k.un && k.st == st
structure Cut (B : List Bk) : Prop where
  ok : ∀ k ∈ B, BkOk k
  one : ∀ k ∈ B, ∀ l ∈ B, ∀ t, t ∈ k.row → t ∈ l.row → k = l
  nd : B.Nodup
  ssn : ∀ (st : Int) (p : Nat) k, (B.filter (ordB st))[p]? = some k → k.ssn = (p : Int)
  few : B.length ≤ 40
  cnt : (B.flatMap Bk.row).length ≤ 20000
section
variable {B T : List Bk} {s : St} {c : Ch} {k l : Bk} {L : List Ch}
theorem BkOk.len (h : BkOk k) : k.chs.length = k.n + 1 := by
  unfold Bk.n
  have := h.ne
  cases hc : k.chs with
  | nil => exact absurd hc this
  | cons a r => simp
theorem Bk.mem_row {t : Int} : t ∈ k.row ↔ ∃ i : Nat, i ≤ k.n ∧ t = (k.f + (i : Int)) % 4294967296 := mem_numsN
theorem BkOk.mem (h : BkOk k) {x : Ch} (hx : x ∈ k.chs) : x.tsn ∈ k.row := by
  obtain ⟨j, hj⟩ := List.getElem?_of_mem hx
  have := (List.getElem?_eq_some_iff.1 hj).1
  exact Bk.mem_row.2 ⟨j, by have := h.len; omega, h.tsn j x hj⟩
theorem BkOk.at (h : BkOk k) {i : Nat} (hi : i ≤ k.n) : ∃ x, k.chs[i]? = some x := ⟨k.chs[i]'(by have := h.len; omega), by simp⟩
theorem Bk.row_ne : k.row ≠ [] := numsN_ne _ _
theorem BkOk.head (h : BkOk k) : k.row.headD 0 = k.f := numsN_head h.rng
theorem row_inj (h : Cut B) (hk : k ∈ B) (hl : l ∈ B) (e : k.row = l.row) : k = l := by
  have hf : k.f ∈ k.row := Bk.mem_row.2 ⟨0, Nat.zero_le _, by have := (h.ok k hk).rng; omega⟩
  exact h.one k hk l hl k.f hf (e ▸ hf)
def Sub (B : List Bk) (L : List Ch) : Prop := ∀ x ∈ L, ∃ k ∈ B, x ∈ k.chs
/-- a chunk's place -/
theorem blk_look (h : Cut B) (hs : Sub B L) (hk : k ∈ B) {i : Nat} {x : Ch} (hx : k.chs[i]? = some x) (hm : (k.f + (i : Int)) % 4294967296 ∈ keys L) : look L ((k.f + (i : Int)) % 4294967296) = some x := by
  obtain ⟨y, hy⟩ := Option.isSome_iff_exists.1 (look_isSome.2 hm)
  rw [hy]
  obtain ⟨h1, h2⟩ := look_some hy
  obtain ⟨l, hl, hyl⟩ := hs y h1
  have hko := h.ok k hk
  have hlo := h.ok l hl
  have hil := (List.getElem?_eq_some_iff.1 hx).1
  have hlen := hko.len
  have e : k = l := h.one k hk l hl _ (Bk.mem_row.2 ⟨i, by omega, rfl⟩) (by rw [← h2]; exact hlo.mem hyl)
  subst e
  obtain ⟨j, hj⟩ := List.getElem?_of_mem hyl
  have hjl := (List.getElem?_eq_some_iff.1 hj).1
  have ht := hko.tsn j y hj
  have hf := hko.few
  have hr := hko.rng
  have : i = j := by rw [h2] at ht; omega
  subst this
  rw [hx] at hj
  exact hj.symm
theorem blk_wh (h : Cut B) (hs : Sub B L) (hk : k ∈ B) (hall : ∀ t ∈ k.row, t ∈ keys L) : Wh L k.row k.f k.n := by
  have hko := h.ok k hk
  have hlen := hko.len
  have hfew := hko.few
  have hl : ∀ i : Nat, i ≤ k.n → ∃ x, k.chs[i]? = some x ∧ look L ((k.f + (i : Int)) % 4294967296) = some x := fun i hi => by
    obtain ⟨x, hx⟩ := hko.at hi
    exact ⟨x, hx, blk_look h hs hk hx (hall _ (Bk.mem_row.2 ⟨i, hi, rfl⟩))⟩
  refine ⟨hko.rng, rfl, by omega, fun i hi => ?_, ?_, ?_⟩
  · obtain ⟨x, hx, hlx⟩ := hl i (by omega)
    obtain ⟨y, hy, hly⟩ := hl (i + 1) (by omega)
    unfold fitB
    rw [hlx, hly]
    show fit2 x y = true
    have a1 := hko.bg (i + 1) y hy
    have a2 := hko.en i x hx
    have a3 := hko.kind x (List.mem_of_getElem? hx)
    have a4 := hko.kind y (List.mem_of_getElem? hy)
    unfold fit2
    rw [a1, a2, a3.2.2.2.1, a3.2.2.2.2.1, a3.2.2.2.2.2, a4.2.2.2.1, a4.2.2.2.2.1, a4.2.2.2.2.2]
    have : ¬ (i + 1 = k.chs.length) := by omega
    simp [this]
  · obtain ⟨x, hx, hlx⟩ := hl 0 (Nat.zero_le _)
    have e : (k.f + ((0 : Nat) : Int)) % 4294967296 = k.f := by have := hko.rng; omega
    rw [e] at hlx
    exact ⟨x, hlx, by rw [hko.bg 0 x hx]; rfl⟩
  · obtain ⟨x, hx, hlx⟩ := hl k.n (Nat.le_refl _)
    exact ⟨x, hlx, by rw [hko.en k.n x hx]; simp [hlen]⟩
/-- a whole row is a block -/
theorem wh_blk (h : Cut B) (hs : Sub B L) {row : List Int} {f : Int} {n : Nat} (hw : Wh L row f n) : ∃ k ∈ B, row = k.row ∧ ∀ t ∈ k.row, t ∈ keys L := by
  obtain ⟨x, hx, hb⟩ := hw.bg
  obtain ⟨h1, h2⟩ := look_some hx
  obtain ⟨k, hk, hxk⟩ := hs x h1
  have hko := h.ok k hk
  have hlen := hko.len
  obtain ⟨j, hj⟩ := List.getElem?_of_mem hxk
  have hbj := hko.bg j x hj
  rw [hb] at hbj
  have hj0 : j = 0 := by simpa using hbj.symm
  subst hj0
  have hf : f = k.f := by
    have := hko.tsn 0 x hj
    have := hko.rng
    rw [h2] at *
    omega
  subst hf
  have hheld := wh_held (L := L) (f := k.f) (n := n) (by rw [← hw.row]; exact hw)
  have hin : ∀ i : Nat, i ≤ n → (k.f + (i : Int)) % 4294967296 ∈ keys L := fun i hi => by
    obtain ⟨y, hy⟩ := hheld _ (mem_numsN.2 ⟨i, hi, rfl⟩)
    exact look_isSome.1 (by rw [hy]; rfl)
  have hn : n = k.n := by
    rcases Nat.lt_trichotomy n k.n with hlt | heq | hgt
    · exfalso
      obtain ⟨y, hy⟩ := hko.at (i := n) (by omega)
      have hly := blk_look h hs hk hy (hin n (Nat.le_refl _))
      obtain ⟨z, hz, hze⟩ := hw.en
      rw [hly] at hz; cases hz
      rw [hko.en n y hy] at hze
      have : n + 1 = k.chs.length := by simpa using hze
      omega
    · exact heq
    · exfalso
      obtain ⟨y, hy⟩ := hko.at (i := k.n) (Nat.le_refl _)
      have hly := blk_look h hs hk hy (hin k.n (by omega))
      have := fit_en (hw.fits k.n hgt) hly
      rw [hko.en k.n y hy] at this
      have : ¬ k.n + 1 = k.chs.length := by simpa using this
      omega
  subst hn
  refine ⟨k, hk, hw.row, fun t ht => ?_⟩
  obtain ⟨i, hi, rfl⟩ := Bk.mem_row.1 ht
  exact hin i hi
theorem blk_body (h : Cut B) (hs : Sub B L) (hk : k ∈ B) (hall : ∀ t ∈ k.row, t ∈ keys L) : k.row.flatMap (bodyOf L) = k.d := by
  have hko := h.ok k hk
  have hlen := hko.len
  have e : k.row.map (bodyOf L) = k.chs.map Ch.b := by
    refine List.ext_getElem? fun i => ?_
    rw [List.getElem?_map, List.getElem?_map]
    rcases Nat.lt_or_ge k.n i with hi | hi
    · rw [List.getElem?_eq_none (by unfold Bk.row; rw [numsN_length]; omega), List.getElem?_eq_none (by omega)]
      rfl
    · obtain ⟨x, hx⟩ := hko.at hi
      have hl := blk_look h hs hk hx (hall _ (Bk.mem_row.2 ⟨i, hi, rfl⟩))
      unfold Bk.row
      rw [numsN_get hi, hx]
      show some (match look L _ with | some x => x.b | none => []) = some x.b
      rw [hl]
  unfold Bk.d
  rw [List.flatMap_def, List.flatMap_def, e]
theorem blk_msg (h : Cut B) (hs : Sub B s.L) (hk : k ∈ B) (hall : ∀ t ∈ k.row, t ∈ keys s.L) : (tellS s k.row).M = s.M ++ [k.msg] := by
  have hko := h.ok k hk
  obtain ⟨x, hx⟩ := hko.at (i := 0) (Nat.zero_le _)
  have hl := blk_look h hs hk hx (hall _ (Bk.mem_row.2 ⟨0, Nat.zero_le _, rfl⟩))
  have e : (k.f + ((0 : Nat) : Int)) % 4294967296 = k.f := by have := hko.rng; omega
  rw [e] at hl
  show s.M ++ [msgOf ((look s.L (k.row.headD 0)).getD _) (k.row.flatMap (bodyOf s.L))] = _
  rw [hko.head, hl, blk_body h hs hk hall]
  have hk' := hko.kind x (List.mem_of_getElem? hx)
  have hp := hko.pr x hx
  show s.M ++ [msgOf x k.d] = _
  unfold msgOf Bk.msg
  rw [hk'.2.2.2.1, hk'.2.2.2.2.1, hk'.2.2.2.2.2, hp]
/-- what has become of the blocks -/
structure InvT (B : List Bk) (s : St) (T : List Bk) : Prop where
  ok : OkB s
  sub : Sub B s.L
  F : s.F = T.flatMap Bk.row
  M : s.M = T.map Bk.msg
  tin : ∀ k ∈ T, k ∈ B
  wh : ∀ r ∈ s.wh, ∃ k ∈ B, k.un = false ∧ r = k.row
  full : ∀ k ∈ B, (∀ t ∈ k.row, t ∈ keys s.L) → k.row ∈ s.wh
  nxl : s.nx.length = 4
  nx : ∀ st : Int, 0 ≤ st → st < 4 → s.nx.getD st.toNat 0 = ((T.filter (ordB st)).length : Int)
  ord : ∀ st : Int, 0 ≤ st → st < 4 → T.filter (ordB st) = (B.filter (ordB st)).take (T.filter (ordB st)).length
theorem InvT.told (h : InvT B s T) (hk : k ∈ T) : ∀ t ∈ k.row, t ∈ s.F := fun t ht => by rw [h.F]; exact List.mem_flatMap.2 ⟨k, hk, ht⟩
theorem InvT.toldn (hc : Cut B) (h : InvT B s T) (hk : k ∈ B) {t : Int} (ht : t ∈ k.row) (hf : t ∈ s.F) : k ∈ T := by
  rw [h.F] at hf
  obtain ⟨l, hl, htl⟩ := List.mem_flatMap.1 hf
  have := hc.one k hk l (h.tin l hl) t ht htl
  subst this
  exact hl
/-- a block that waits is told -/
theorem inv_tell (hc : Cut B) (h : InvT B s T) (hk : k ∈ B) (hall : ∀ t ∈ k.row, t ∈ keys s.L) (hun : k.un = true) (hnw : ∀ r ∈ s.wh, ∀ t ∈ k.row, t ∉ r) : InvT B (tellS s k.row) (T ++ [k]) := by
  have hko := hc.ok k hk
  have hkn := blk_wh hc h.sub hk hall
  have hnd : k.row.Nodup := by
    have := hko.few; have := hko.len
    exact numsN_nodup (by omega)
  have hff : ∀ st, (T ++ [k]).filter (ordB st) = T.filter (ordB st) := fun st => by
    rw [List.filter_append]
    simp [ordB, hun]
  refine ⟨tell_okB h.ok Bk.row_ne hnd hall hnw, fun x hx => h.sub x (List.mem_filter.1 hx).1, ?_, ?_, ?_, h.wh, ?_, h.nxl, ?_, ?_⟩
  · show s.F ++ k.row = _
    rw [h.F]; simp
  · rw [blk_msg hc h.sub hk hall, h.M]; simp
  · intro l hl
    rcases List.mem_append.1 hl with hl | hl
    · exact h.tin l hl
    · rw [List.mem_singleton] at hl; subst hl; exact hk
  · intro l hl hla
    refine h.full l hl fun t ht => ?_
    obtain ⟨x, hx, rfl⟩ := List.mem_map.1 (hla t ht)
    exact List.mem_map.2 ⟨x, (List.mem_filter.1 hx).1, rfl⟩
  · intro st h1 h2
    rw [hff]; exact h.nx st h1 h2
  · intro st h1 h2
    rw [hff]; exact h.ord st h1 h2
theorem filter_at (hc : Cut B) {st : Int} (hk : k ∈ B) (ho : ordB st k = true) {m : Nat} (hs : k.ssn = (m : Int)) : (B.filter (ordB st))[m]? = some k := by
  obtain ⟨p, hp⟩ := List.getElem?_of_mem (List.mem_filter.2 ⟨hk, ho⟩)
  have := hc.ssn st p k hp
  have : p = m := by omega
  subst this
  exact hp
/-- a block whose turn it is is told -/
theorem inv_turn (hc : Cut B) (h : InvT B s T) {st : Int} {i : Nat} {row : List Int} (hi : s.wh[i]? = some row) (ht : isTurn s st row = true) (hst : 0 ≤ st ∧ st < 4) : ∃ k ∈ B, row = k.row ∧ InvT B (tellS (outS s st i) row) (T ++ [k]) := by
  have hmem := List.mem_of_getElem? hi
  obtain ⟨k, hk, hun, rfl⟩ := h.wh row hmem
  have hko := hc.ok k hk
  obtain ⟨h1, h2, h3⟩ := h.ok.rows _ hmem
  obtain ⟨x, hx⟩ := hko.at (i := 0) (Nat.zero_le _)
  have hl := blk_look hc h.sub hk hx (h3 _ (Bk.mem_row.2 ⟨0, Nat.zero_le _, rfl⟩))
  have e : (k.f + ((0 : Nat) : Int)) % 4294967296 = k.f := by have := hko.rng; omega
  rw [e] at hl
  have hkx := hko.kind x (List.mem_of_getElem? hx)
  unfold isTurn at ht
  rw [hko.head, hl] at ht
  simp only [Bool.and_eq_true, beq_iff_eq] at ht
  rw [hkx.2.2.2.1, hkx.2.2.2.2.1] at ht
  obtain ⟨ht1, ht2⟩ := ht
  rw [h.nx st hst.1 hst.2] at ht2
  have hok : ordB st k = true := by unfold ordB; rw [hun, ht1]; simp
  have hat := filter_at hc hk hok ht2
  refine ⟨k, hk, rfl, ?_⟩
  have hB := turn_stepB (st := st) h.ok hi
  have hff : (T ++ [k]).filter (ordB st) = T.filter (ordB st) ++ [k] := by
    rw [List.filter_append]; simp [hok]
  have hfo : ∀ st', st' ≠ st → (T ++ [k]).filter (ordB st') = T.filter (ordB st') := fun st' hne => by
    rw [List.filter_append]
    have : ordB st' k = false := by
      unfold ordB
      rw [ht1]
      have : (st == st') = false := by simpa using fun e => hne e.symm
      rw [this]; simp
    simp [this]
  have hml : (T.filter (ordB st)).length < (B.filter (ordB st)).length := (List.getElem?_eq_some_iff.1 hat).1
  have hbl := List.length_filter_le (ordB st) B
  have hfew := hc.few
  refine ⟨hB, fun x hx => h.sub x (List.mem_filter.1 hx).1, ?_, ?_, ?_, ?_, ?_, ?_, ?_, ?_⟩
  · show s.F ++ k.row = _
    rw [h.F]; simp
  · have hm := blk_msg (s := outS s st i) hc h.sub hk h3
    have hm' : (outS s st i).M = s.M := rfl
    rw [hm, hm', h.M]; simp
  · intro l hl
    rcases List.mem_append.1 hl with hl | hl
    · exact h.tin l hl
    · rw [List.mem_singleton] at hl; subst hl; exact hk
  · intro r hr
    exact h.wh r ((List.eraseIdx_sublist _ _).subset hr)
  · intro l hl hla
    have hne : l ≠ k := fun e => by
      subst e
      have hf : l.f ∈ l.row := Bk.mem_row.2 ⟨0, Nat.zero_le _, by have := hko.rng; omega⟩
      obtain ⟨x, hx, hxe⟩ := List.mem_map.1 (hla l.f hf)
      have := (List.mem_filter.1 hx).2
      rw [hxe] at this
      simp [hf] at this
    have hw := h.full l hl fun t ht => by
      obtain ⟨x, hx, rfl⟩ := List.mem_map.1 (hla t ht)
      exact List.mem_map.2 ⟨x, (List.mem_filter.1 hx).1, rfl⟩
    obtain ⟨q, hq⟩ := List.getElem?_of_mem hw
    have hqi : q ≠ i := fun e => by
      subst e
      rw [hi] at hq
      exact hne (row_inj hc hl hk (Option.some.inj hq).symm)
    show l.row ∈ s.wh.eraseIdx i
    exact List.mem_eraseIdx_iff_getElem?.2 ⟨q, hqi, hq⟩
  · show (s.nx.set _ _).length = 4
    rw [List.length_set, h.nxl]
  · intro st' q1 q2
    show (s.nx.set st.toNat _).getD st'.toNat 0 = _
    by_cases e : st' = st
    · subst e
      rw [hff, List.length_append, List.length_singleton]
      rw [List.getD_eq_getElem?_getD, List.getElem?_set_self (by rw [h.nxl]; omega)]
      show IntKind.wrap .u16 (s.nx.getD st'.toNat 0 + 1) = _
      rw [h.nx st' q1 q2, wrap_u16 (by omega) (by omega)]
      omega
    · rw [hfo st' e, getD_set_ne (by omega)]
      exact h.nx st' q1 q2
  · intro st' q1 q2
    by_cases e : st' = st
    · subst e
      rw [hff, List.length_append, List.length_singleton, List.take_add_one, hat, ← h.ord st' q1 q2]
      rfl
    · rw [hfo st' e]
      exact h.ord st' q1 q2
theorem inv_turns (hc : Cut B) {st : Int} (hst : 0 ≤ st ∧ st < 4) : ∀ (n : Nat) {s : St} {T : List Bk}, InvT B s T → ∃ T', InvT B (turnS n s st) T'
  | 0, s, T, h => ⟨T, h⟩
  | n + 1, s, T, h => by
    unfold turnS
    cases hf : s.wh.findIdx? (isTurn s st) with
    | none => exact ⟨T, h⟩
    | some i =>
      obtain ⟨hlt, hp, _⟩ := List.findIdx?_eq_some_iff_getElem.1 hf
      have hi : s.wh[i]? = some (s.wh.getD i []) := by
        rw [List.getD_eq_getElem?_getD, List.getElem?_eq_getElem hlt]; rfl
      have hp' : isTurn s st (s.wh.getD i []) = true := by
        have : s.wh.getD i [] = s.wh[i] := by rw [List.getD_eq_getElem?_getD, List.getElem?_eq_getElem hlt]; rfl
        rw [this]; exact hp
      obtain ⟨k, _, _, h'⟩ := inv_turn hc h hi hp' hst
      exact inv_turns hc hst n h'
end
end Go.Proofs.Ytaflmpbeonoilaa
