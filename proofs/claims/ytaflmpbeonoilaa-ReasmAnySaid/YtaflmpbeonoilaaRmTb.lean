/-
  Chunks make the same messages in whatever order they come (plain): all are told in the end.
-/
import Derived.Test.YtaflmpbeonoilaaRmTa
namespace Go.Proofs.Ytaflmpbeonoilaa
open Go Go.Sh Go.RowKit
section
variable {B T : List Bk} {s : St} {c : Ch} {k l : Bk} {L : List Ch}
theorem nodup_len_le {α : Type} (l l' : List α) (hn : l.Nodup) (hs : ∀ x ∈ l, x ∈ l') : l.length ≤ l'.length := by
  haveI : DecidableEq α := fun a b => Classical.propDecidable (a = b)
  exact nodup_sub_len l l' hn hs
def Kn (s : St) (t : Int) : Prop := t ∈ keys s.L ∨ t ∈ s.F
theorem kn_tell {row : List Int} {t : Int} (h : Kn s t) : Kn (tellS s row) t := by
  rcases h with h | h
  · by_cases hr : t ∈ row
    · exact .inr (List.mem_append.2 (.inr hr))
    · obtain ⟨x, hx, rfl⟩ := List.mem_map.1 h
      exact .inl (List.mem_map.2 ⟨x, List.mem_filter.2 ⟨hx, by simpa using hr⟩, rfl⟩)
  · exact .inr (List.mem_append.2 (.inl h))
theorem kn_turn : ∀ (n : Nat) {s : St} {st t : Int}, Kn s t → Kn (turnS n s st) t
  | 0, _, _, _, h => h
  | n + 1, s, st, t, h => by
    unfold turnS
    split
    · exact h
    · exact kn_turn n (kn_tell (s := outS s st _) h)
theorem kn_put1 {t : Int} (h : Kn s t) : Kn (put1 s c) t := by
  rcases h with h | h
  · refine .inl ?_
    obtain ⟨x, hx, rfl⟩ := List.mem_map.1 h
    exact List.mem_map.2 ⟨x, List.mem_append.2 (.inl hx), rfl⟩
  · exact .inr h
theorem kn_put1s : Kn (put1 s c) c.tsn := .inl (List.mem_map.2 ⟨c, List.mem_append.2 (.inr (by simp)), rfl⟩)
theorem kn_putS {t : Int} (h : Kn (put1 s c) t) : Kn (putS s c) t := by
  unfold putS
  split
  · split
    · exact kn_tell h
    · exact kn_turn _ (s := put2 s c) h
  · exact h
theorem kn_putT {t : Int} (h : Kn s t) : Kn (putT s c) t := by
  unfold putT
  split
  · exact kn_putS (kn_put1 h)
  · exact h
theorem sub_rows (hc : Cut B) (hs : Sub B L) {t : Int} (ht : t ∈ keys L) : t ∈ B.flatMap Bk.row := by
  obtain ⟨x, hx, rfl⟩ := List.mem_map.1 ht
  obtain ⟨k, hk, hxk⟩ := hs x hx
  exact List.mem_flatMap.2 ⟨k, hk, (hc.ok k hk).mem hxk⟩
theorem inv_cnt (hc : Cut B) (h : InvT B s T) : s.L.length + s.F.length ≤ 20000 := by
  have hn : (keys s.L ++ s.F).Nodup := List.nodup_append.2 ⟨h.ok.key, h.ok.fix, fun a ha b hb e => h.ok.fkey b hb (e ▸ ha)⟩
  have := nodup_sub_len (keys s.L ++ s.F) (B.flatMap Bk.row) hn fun t ht => by
    rcases List.mem_append.1 ht with ht | ht
    · exact sub_rows hc h.sub ht
    · rw [h.F] at ht
      obtain ⟨k, hk, htk⟩ := List.mem_flatMap.1 ht
      exact List.mem_flatMap.2 ⟨k, h.tin k hk, htk⟩
  have := hc.cnt
  simp at *
  omega
theorem sum7 : ∀ {l : List Ch}, (∀ x ∈ l, x.b.length ≤ 7) → szL l ≤ 7 * l.length
  | [], _ => by simp [szL]
  | x :: l, h => by
    have := sum7 (l := l) fun y hy => h y (by simp [hy])
    have := h x (by simp)
    unfold szL at *
    simp only [List.map_cons, List.sum_cons, List.length_cons]
    omega
theorem d_len (k : Bk) : k.d.length = szL k.chs := by unfold Bk.d szL; rw [List.length_flatMap]
theorem inv_tot (hc : Cut B) (h : InvT B s T) : tot s ≤ 140000 := by
  have h1 : szL s.L ≤ 7 * s.L.length := sum7 fun x hx => by
    obtain ⟨k, hk, hxk⟩ := h.sub x hx
    exact ((hc.ok k hk).kind x hxk).2.2.1
  have h2 : ∀ {T : List Bk}, (∀ k ∈ T, k ∈ B) → szM (T.map Bk.msg) ≤ 7 * (T.flatMap Bk.row).length := by
    intro T
    induction T with
    | nil => intro _; simp [szM]
    | cons k T ih =>
      intro hT
      have i1 := ih fun l hl => hT l (by simp [hl])
      have hko := hc.ok k (hT k (by simp))
      have i2 : k.d.length ≤ 7 * k.chs.length := by rw [d_len]; exact sum7 fun x hx => (hko.kind x hx).2.2.1
      have i3 : k.row.length = k.chs.length := by unfold Bk.row; rw [numsN_length, hko.len]
      unfold szM at *
      simp only [List.map_cons, List.sum_cons, List.flatMap_cons, List.length_append]
      have : k.msg.d.length = k.d.length := rfl
      omega
  have h3 := h2 h.tin
  rw [← h.M, ← h.F] at h3
  have := inv_cnt hc h
  unfold tot
  omega
theorem ck_ok (hc : Cut B) (hk : k ∈ B) (hx : c ∈ k.chs) : CkOk c := by
  have hko := hc.ok k hk
  obtain ⟨j, hj⟩ := List.getElem?_of_mem hx
  have := hko.tsn j c hj
  have hkx := hko.kind c hx
  have := hko.st4
  exact ⟨by omega, by rw [hkx.2.2.2.1]; omega⟩
theorem put_e (hc : Cut B) (h : InvT B s T) (hl : s.lim = 1073741824) (hk : k ∈ B) (hx : c ∈ k.chs) : putE s c = 0 ∨ (putE s c ≠ 0 ∧ Kn s c.tsn) := by
  have hkx := (hc.ok k hk).kind c hx
  have hst := (hc.ok k hk).st4
  have h1 := inv_cnt hc h
  have h2 := inv_tot hc h
  unfold putE
  have hb : c.b.length ≠ 0 := fun e => hkx.2.1 (List.length_eq_zero_iff.1 e)
  rw [if_neg (by rw [hkx.1]; have := hkx.2.2.1; omega), if_neg (by rw [hkx.2.2.2.1, h.nxl]; omega)]
  by_cases hs : (look s.L c.tsn).isSome = true ∨ c.tsn ∈ s.F
  · rw [if_pos hs]
    refine .inr ⟨by decide, ?_⟩
    rcases hs with hs | hs
    · exact .inl (look_isSome.1 hs)
    · exact .inr hs
  · rw [if_neg hs, if_neg (by rw [hl]; have := hkx.2.2.1; omega), if_neg (by omega)]
    exact .inl rfl
theorem inv_put (hc : Cut B) (h : InvT B s T) (hl : s.lim = 1073741824) (hk : k ∈ B) (hx : c ∈ k.chs) : (∃ T', InvT B (putT s c) T') ∧ Kn (putT s c) c.tsn := by
  have hck := ck_ok hc hk hx
  have hko := hc.ok k hk
  have hdone : putE s c ≠ 0 ∧ Kn s c.tsn → (∃ T', InvT B (putT s c) T') ∧ Kn (putT s c) c.tsn := fun ⟨hne, hkn⟩ => by
    have : putT s c = s := by unfold putT; rw [if_neg hne]
    rw [this]
    exact ⟨⟨T, h⟩, hkn⟩
  rcases (put_e hc h hl hk hx).symm with hd | he
  · exact hdone hd
  clear hdone
  have hT : putT s c = putS s c := by unfold putT; rw [if_pos he]
  rw [hT]
  refine ⟨?_, kn_putS kn_put1s⟩
  obtain ⟨h1, _⟩ := put1_ok h.ok hck (by rw [hl]; decide) he
  have hnew := (putE_0 he).2.2.2.2.1
  have hnF := (putE_0 he).2.2.2.2.2.1
  have hsub1 : Sub B (s.L ++ [c]) := fun x hx' => by
    rcases List.mem_append.1 hx' with hx' | hx'
    · exact h.sub x hx'
    · rw [List.mem_singleton] at hx'; subst hx'; exact ⟨k, hk, hx⟩
  have other : ∀ l ∈ B, l ≠ k → (∀ t ∈ l.row, t ∈ keys (s.L ++ [c])) → ∀ t ∈ l.row, t ∈ keys s.L := by
    intro l hl' hne ha t ht
    obtain ⟨x, hx', hxe⟩ := List.mem_map.1 (ha t ht)
    rcases List.mem_append.1 hx' with hx' | hx'
    · exact List.mem_map.2 ⟨x, hx', hxe⟩
    · exfalso
      rw [List.mem_singleton] at hx'
      subst hx'
      refine hne (hc.one l hl' k hk t ht ?_)
      rw [← hxe]; exact hko.mem hx
  have noT : k ∉ T := fun hkT => hnF (h.told hkT _ (hko.mem hx))
  unfold putS
  by_cases hw : whC s c = true
  · rw [if_pos hw]
    obtain ⟨g, n, hg⟩ := rowC_wh h1 hck hw
    obtain ⟨k', hk', hrow, hall⟩ := wh_blk hc hsub1 hg
    obtain ⟨_, _, _, _, _, _, r5, _⟩ := rowC_facts h1 hck
    have hkk : k' = k := hc.one k' hk' k hk c.tsn (by rw [← hrow]; exact r5) (hko.mem hx)
    subst hkk
    have hdis := rowC_dis h.ok h1 hck hnew hw
    obtain ⟨s3, s4, _⟩ := rowC_same h1 hck hnew
    have hkx := hko.kind c hx
    rw [hkx.2.2.2.2.2] at s4
    rw [s4]
    by_cases hu : k'.un = true
    · rw [if_pos hu, hrow]
      have hI1 : ∀ l ∈ B, l ≠ k' → (∀ t ∈ l.row, t ∈ keys (put1 s c).L) → l.row ∈ s.wh := fun l hl' hne ha => h.full l hl' (other l hl' hne ha)
      have hnd : k'.row.Nodup := by rw [← hrow]; obtain ⟨_, _, _, _, _, _, _, _, _, r8, _⟩ := rowC_facts h1 hck; exact r8
      have hff : ∀ st, (T ++ [k']).filter (ordB st) = T.filter (ordB st) := fun st => by
        rw [List.filter_append]
        simp [ordB, hu]
      refine ⟨T ++ [k'], tell_okB h1 Bk.row_ne hnd hall (by rw [← hrow]; exact hdis), fun x hx' => hsub1 x (List.mem_filter.1 hx').1, ?_, ?_, ?_, h.wh, ?_, h.nxl, ?_, ?_⟩
      · show s.F ++ k'.row = _
        rw [h.F]; simp
      · rw [blk_msg (s := put1 s c) hc hsub1 hk' hall]
        show s.M ++ _ = _
        rw [h.M]; simp
      · intro l hl'
        rcases List.mem_append.1 hl' with hl' | hl'
        · exact h.tin l hl'
        · rw [List.mem_singleton] at hl'; subst hl'; exact hk'
      · intro l hl' hla
        have hne : l ≠ k' := fun e => by
          subst e
          have hf : l.f ∈ l.row := Bk.mem_row.2 ⟨0, Nat.zero_le _, by have := hko.rng; omega⟩
          obtain ⟨x, hx', hxe⟩ := List.mem_map.1 (hla l.f hf)
          have := (List.mem_filter.1 hx').2
          rw [hxe] at this
          simp [hf] at this
        refine hI1 l hl' hne fun t ht => ?_
        obtain ⟨x, hx', rfl⟩ := List.mem_map.1 (hla t ht)
        exact List.mem_map.2 ⟨x, (List.mem_filter.1 hx').1, rfl⟩
      · intro st q1 q2
        rw [hff]; exact h.nx st q1 q2
      · intro st q1 q2
        rw [hff]; exact h.ord st q1 q2
    · rw [if_neg hu]
      obtain ⟨h3, _⟩ := put2_ok h.ok h1 hck hnew hw
      have hst : 0 ≤ c.r.f3 ∧ c.r.f3 < 4 := by rw [hkx.2.2.2.1]; exact hko.st4
      refine inv_turns hc hst _ (s := put2 s c) (T := T) ⟨h3, hsub1, h.F, h.M, h.tin, ?_, ?_, h.nxl, h.nx, h.ord⟩
      · intro r hr
        rcases List.mem_append.1 hr with hr | hr
        · exact h.wh r hr
        · rw [List.mem_singleton] at hr
          exact ⟨k', hk', by simpa using hu, by rw [hr, hrow]⟩
      · intro l hl' hla
        show l.row ∈ s.wh ++ [rowC s c]
        by_cases e : l = k'
        · subst e
          rw [hrow]; simp
        · exact List.mem_append.2 (.inl (h.full l hl' (other l hl' e hla)))
  · rw [if_neg hw]
    refine ⟨T, h1, hsub1, h.F, h.M, h.tin, h.wh, ?_, h.nxl, h.nx, h.ord⟩
    intro l hl' hla
    by_cases e : l = k
    · subst e
      exfalso
      have hwh := blk_wh hc hsub1 hk hla
      obtain ⟨j, hj⟩ := List.getElem?_of_mem hx
      have hjl := (List.getElem?_eq_some_iff.1 hj).1
      have hlen := hko.len
      have hfew := hko.few
      obtain ⟨x0, hx0, hb0⟩ := hwh.bg
      have htj := hko.tsn j c hj
      have hbgn : bgn (s.L ++ [c]) ((s.L ++ [c]).length + 1) c.tsn = some l.f := by
        rw [htj]
        have hrun : j + 1 ≤ (s.L ++ [c]).length := run_len (t := l.f) (by omega) fun i hi => hla _ (Bk.mem_row.2 ⟨i, by omega, rfl⟩)
        refine bgn_of hko.rng hx0 hb0 _ j (by omega) (by omega) fun i i1 i2 => ?_
        obtain ⟨y, hy⟩ := hko.at (i := i) (by omega)
        refine ⟨y, blk_look hc hsub1 hk hy (hla _ (Bk.mem_row.2 ⟨i, by omega, rfl⟩)), ?_⟩
        rw [hko.bg i y hy]
        have : i ≠ 0 := by omega
        simp [this]
      exact put_no h1 hck (by simpa using hw) hbgn (n := l.n) hwh (hko.mem hx)
    · exact h.full l hl' (other l hl' e hla)
/-- in the end -/
theorem inv_end (hc : Cut B) (h : InvT B s T) (hq : Quiet s) (hall : ∀ k ∈ B, ∀ t ∈ k.row, Kn s t) : s.L = [] ∧ T.Nodup ∧ (∀ k, k ∈ T ↔ k ∈ B) ∧ ∀ st : Int, 0 ≤ st → st < 4 → T.filter (ordB st) = B.filter (ordB st) := by
  have hnil : s.L = [] := by
    cases hL : s.L with
    | nil => rfl
    | cons x r =>
      exfalso
      have hx : x ∈ s.L := by rw [hL]; simp
      obtain ⟨k, hk, hxk⟩ := h.sub x hx
      have hko := hc.ok k hk
      have hkT : k ∉ T := fun hkT => h.ok.fkey _ (h.told hkT _ (hko.mem hxk)) (List.mem_map.2 ⟨x, hx, rfl⟩)
      have lh : ∀ l ∈ B, l ∉ T → l.row ∈ s.wh := fun l hl hlT => h.full l hl fun t ht => by
        rcases hall l hl t ht with h' | h'
        · exact h'
        · exact absurd (h.toldn hc hl ht h') hlT
      obtain ⟨k2, hk2, hun, hr2⟩ := h.wh _ (lh k hk hkT)
      have := row_inj hc hk hk2 hr2
      subst this
      have hst := hko.st4
      have hok : ordB k.st k = true := by unfold ordB; rw [hun]; simp
      have hord := h.ord k.st hst.1 hst.2
      obtain ⟨m, hm⟩ : ∃ m, m = (T.filter (ordB k.st)).length := ⟨_, rfl⟩
      rw [← hm] at hord
      have hkin : k ∈ B.filter (ordB k.st) := List.mem_filter.2 ⟨hk, hok⟩
      obtain ⟨p, hp⟩ := List.getElem?_of_mem hkin
      have hpl := (List.getElem?_eq_some_iff.1 hp).1
      have hpm : m ≤ p := by
        apply Nat.le_of_not_lt
        intro hlt
        apply hkT
        have : k ∈ (B.filter (ordB k.st)).take m := List.mem_of_getElem? (i := p) (by rw [List.getElem?_take, if_pos hlt]; exact hp)
        rw [← hord] at this
        exact (List.mem_filter.1 this).1
      obtain ⟨l, hl⟩ : ∃ l, (B.filter (ordB k.st))[m]? = some l := ⟨(B.filter (ordB k.st))[m]'(by omega), by simp⟩
      have hlm := List.mem_filter.1 (List.mem_of_getElem? hl)
      have hssn := hc.ssn k.st m l hl
      have hlT : l ∉ T := fun hlT => by
        have h1 : l ∈ (B.filter (ordB k.st)).take m := by rw [← hord]; exact List.mem_filter.2 ⟨hlT, hlm.2⟩
        obtain ⟨q, hq'⟩ := List.getElem?_of_mem h1
        rw [List.getElem?_take] at hq'
        split at hq'
        · rename_i hqm
          have := (List.getElem?_inj (l := B.filter (ordB k.st)) (i := q) (j := m) (by omega) (hc.nd.filter _)).1 (by rw [hq', hl])
          omega
        · cases hq'
      have hlw := lh l hlm.1 hlT
      have hlo := hc.ok l hlm.1
      have hd := hq _ hlw
      obtain ⟨y, hy⟩ := hlo.at (i := 0) (Nat.zero_le _)
      have hrows := h.ok.rows _ hlw
      have hly := blk_look hc h.sub hlm.1 hy (hrows.2.2 _ (Bk.mem_row.2 ⟨0, Nat.zero_le _, rfl⟩))
      have e : (l.f + ((0 : Nat) : Int)) % 4294967296 = l.f := by have := hlo.rng; omega
      rw [e] at hly
      unfold due at hd
      rw [hlo.head, hly] at hd
      have hly2 := hlo.kind y (List.mem_of_getElem? hy)
      have hls : l.st = k.st := by
        have := hlm.2
        unfold ordB at this
        simp at this
        exact this.2
      simp only [beq_eq_false_iff_ne, ne_eq] at hd
      apply hd
      rw [hly2.2.2.2.1, hly2.2.2.2.2.1, hls, h.nx k.st hst.1 hst.2, hssn, hm]
  have hmem : ∀ k, k ∈ T ↔ k ∈ B := fun k => by
    refine ⟨h.tin k, fun hk => ?_⟩
    have hf : k.f ∈ k.row := Bk.mem_row.2 ⟨0, Nat.zero_le _, by have := (hc.ok k hk).rng; omega⟩
    rcases hall k hk _ hf with h' | h'
    · rw [hnil] at h'; cases h'
    · exact h.toldn hc hk hf h'
  have hTn : T.Nodup := by
    have hF := h.ok.fix
    rw [h.F] at hF
    clear hmem hnil
    have htin := h.tin
    clear h
    induction T with
    | nil => simp
    | cons k T ih =>
      rw [List.flatMap_cons, List.nodup_append] at hF
      rw [List.nodup_cons]
      refine ⟨fun hkT => ?_, ih hF.2.1 fun l hl => htin l (by simp [hl])⟩
      have hf : k.f ∈ k.row := Bk.mem_row.2 ⟨0, Nat.zero_le _, by have := (hc.ok k (htin k (by simp))).rng; omega⟩
      exact hF.2.2 k.f hf k.f (List.mem_flatMap.2 ⟨k, hkT, hf⟩) rfl
  refine ⟨hnil, hTn, hmem, fun st q1 q2 => ?_⟩
  have h1 := h.ord st q1 q2
  have h2 : (T.filter (ordB st)).length = (B.filter (ordB st)).length := by
    apply Nat.le_antisymm
    · exact nodup_len_le _ _ (hTn.filter _) fun l hl => List.mem_filter.2 ⟨(hmem l).1 (List.mem_filter.1 hl).1, (List.mem_filter.1 hl).2⟩
    · exact nodup_len_le _ _ (hc.nd.filter _) fun l hl => List.mem_filter.2 ⟨(hmem l).2 (List.mem_filter.1 hl).1, (List.mem_filter.1 hl).2⟩
  rw [h2, List.take_length] at h1
  exact h1
end
end Go.Proofs.Ytaflmpbeonoilaa
