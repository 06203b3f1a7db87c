/-
  A chunk that is put, by the document: the same rows, the same turns (plain).
-/
import Derived.Test.YtaflmpbeonoilaaRmBa
namespace Go.Proofs.Ytaflmpbeonoilaa
open Go Go.Sh Go.RowKit
def bgn (L : List Ch) : Nat → Int → Option Int
  | 0, _ => none
  | n + 1, t => match look L t with
    | none => none
    | some x => if x.has 2 = true then some t else bgn L n (dn1 t)
theorem bgn_some {L : List Ch} : ∀ (n : Nat) {t b : Int}, (0 ≤ t ∧ t < 4294967296) → bgn L n t = some b → ∃ m : Nat, m < n ∧ (0 ≤ b ∧ b < 4294967296) ∧ t = (b + (m : Int)) % 4294967296 ∧ (∃ x, look L b = some x ∧ x.has 2 = true) ∧ ∀ i : Nat, 0 < i → i ≤ m → ∃ y, look L ((b + (i : Int)) % 4294967296) = some y ∧ y.has 2 = false
  | 0, t, b, _, h => by cases h
  | n + 1, t, b, ht, h => by
    unfold bgn at h
    cases hx : look L t with
    | none => rw [hx] at h; cases h
    | some x =>
      rw [hx] at h
      simp only at h
      by_cases hb : x.has 2 = true
      · rw [if_pos hb] at h
        cases h
        exact ⟨0, by omega, ht, by omega, ⟨x, hx, hb⟩, fun i h1 h2 => by omega⟩
      · rw [if_neg hb] at h
        have hd := dn1_mod t
        obtain ⟨m, h1, h2, h3, h4, h5⟩ := bgn_some n (by omega) h
        refine ⟨m + 1, by omega, h2, by omega, h4, fun i hi1 hi2 => ?_⟩
        rcases Nat.lt_or_ge i (m + 1) with hlt | hge
        · exact h5 i hi1 (by omega)
        · have : i = m + 1 := by omega
          subst this
          refine ⟨x, ?_, by simpa using hb⟩
          have e : (b + ((m + 1 : Nat) : Int)) % 4294967296 = t := by omega
          rw [e]; exact hx
theorem bgn_of {L : List Ch} {b : Int} {x : Ch} (hb : 0 ≤ b ∧ b < 4294967296) (hx : look L b = some x) (h2 : x.has 2 = true) : ∀ (n m : Nat), m < n → m < 4294967296 → (∀ i : Nat, 0 < i → i ≤ m → ∃ y, look L ((b + (i : Int)) % 4294967296) = some y ∧ y.has 2 = false) → bgn L n ((b + (m : Int)) % 4294967296) = some b
  | 0, m, hm, _, _ => by omega
  | n + 1, 0, _, _, _ => by
    have e : (b + ((0 : Nat) : Int)) % 4294967296 = b := by omega
    rw [e]
    unfold bgn
    rw [hx]
    simp only
    rw [if_pos h2]
  | n + 1, m + 1, hm, hm2, hi => by
    obtain ⟨y, hy, hy2⟩ := hi (m + 1) (by omega) (Nat.le_refl _)
    have e : dn1 ((b + ((m + 1 : Nat) : Int)) % 4294967296) = (b + (m : Int)) % 4294967296 := by rw [dn1_mod]; omega
    unfold bgn
    rw [hy]
    simp only
    rw [if_neg (by rw [hy2]; simp), e]
    exact bgn_of hb hx h2 n m (by omega) (by omega) fun i h1 h3 => hi i h1 (by omega)
theorem chain_same {L : List Ch} {f : Int} {n : Nat} (hf0 : 0 ≤ f ∧ f < 4294967296) (hf : fitsN L f n) {x : Ch} (hx : look L f = some x) : ∀ i : Nat, i ≤ n → ∀ y, look L ((f + (i : Int)) % 4294967296) = some y → y.r.f3 = x.r.f3 ∧ y.r.f4 = x.r.f4 ∧ y.has 4 = x.has 4
  | 0, _, y, hy => by
    have e : (f + ((0 : Nat) : Int)) % 4294967296 = f := by omega
    rw [e, hx] at hy
    cases hy
    exact ⟨rfl, rfl, rfl⟩
  | i + 1, hi, y, hy => by
    obtain ⟨u, v, hu, hv, hfit⟩ := fit_held (hf i (by omega))
    rw [hy] at hv
    cases hv
    obtain ⟨h1, h2, h3⟩ := chain_same hf0 hf hx i (by omega) u hu
    unfold fit2 at hfit
    simp only [Bool.and_eq_true, beq_iff_eq] at hfit
    obtain ⟨_, _, q1, q2, q3⟩ := hfit
    exact ⟨q1.symm.trans h1, q2.symm.trans h2, q3.symm.trans h3⟩
theorem wh_held {L : List Ch} {f : Int} {n : Nat} (hw : Wh L (numsN f n) f n) : ∀ t ∈ numsN f n, ∃ x, look L t = some x := by
  intro t ht
  obtain ⟨i, hin, rfl⟩ := mem_numsN.1 ht
  rcases Nat.lt_or_ge i n with hlt | hge
  · obtain ⟨x, _, hx, _⟩ := fit_held (hw.fits i hlt)
    exact ⟨x, hx⟩
  · have : i = n := by omega
    subst this
    obtain ⟨x, hx, _⟩ := hw.en
    exact ⟨x, hx⟩
section
variable {s : St} {c : Ch} {row : List Int}
theorem look_new (hnew : c.tsn ∉ keys s.L) : look (s.L ++ [c]) c.tsn = some c := by
  unfold look
  rw [List.find?_append]
  have : s.L.find? (fun x => x.tsn == c.tsn) = none := List.find?_eq_none.2 fun x hx => by
    have : x.tsn ≠ c.tsn := fun e => hnew (List.mem_map.2 ⟨x, hx, e⟩)
    simpa using this
  rw [this]
  simp
theorem rowC_same (h : OkB (put1 s c)) (hc : CkOk c) (hnew : c.tsn ∉ keys s.L) : (fstC s c).r.f3 = c.r.f3 ∧ (fstC s c).has 4 = c.has 4 ∧ look (s.L ++ [c]) ((rowC s c).headD 0) = some (fstC s c) := by
  obtain ⟨g, n, h1, h2, h3, h4, h5, h6, _, _, h7, _, ⟨x, hx, hfx⟩, _, _, _⟩ := rowC_facts h hc
  rw [h2, mem_numsN] at h5
  obtain ⟨m, hm, e⟩ := h5
  have := chain_same h1 h3 hx m hm c (by rw [← e]; exact look_new hnew)
  rw [hfx, h7]
  exact ⟨this.1.symm, this.2.2.symm, hx⟩
/-- the row of the chunk that is put is whole, by the document -/
theorem put_yes (h : OkB (put1 s c)) (hc : CkOk c) (hw : whC s c = true) : ∃ f n, bgn (s.L ++ [c]) ((s.L ++ [c]).length + 1) c.tsn = some f ∧ Wh (s.L ++ [c]) (numsN f n) f n ∧ rowC s c = numsN f n ∧ c.tsn ∈ numsN f n := by
  obtain ⟨g, n, hg⟩ := rowC_wh h hc hw
  obtain ⟨_, _, _, _, _, _, h5, h6, _⟩ := rowC_facts h hc
  have hrow := hg.row
  rw [hrow] at h5 h6
  obtain ⟨m, hm, e⟩ := mem_numsN.1 h5
  obtain ⟨x, hx, hb⟩ := hg.bg
  refine ⟨g, n, ?_, by rw [← hrow]; exact hg, hrow, h5⟩
  have hrun : m + 1 ≤ (s.L ++ [c]).length := run_len (t := g) (by have := hg.few; omega) fun i hi => h6 _ (mem_numsN.2 ⟨i, by omega, rfl⟩)
  rw [e]
  refine bgn_of hg.rng hx hb _ m (by omega) (by have := hg.few; omega) fun i h1 h2 => ?_
  obtain ⟨i', rfl⟩ : ∃ i', i = i' + 1 := ⟨i - 1, by omega⟩
  obtain ⟨_, y, _, hy, _⟩ := fit_held (hg.fits i' (by omega))
  exact ⟨y, hy, fit_bg (hg.fits i' (by omega)) hy⟩
theorem put_no (h : OkB (put1 s c)) (hc : CkOk c) (hw : whC s c = false) {b : Int} (hb : bgn (s.L ++ [c]) ((s.L ++ [c]).length + 1) c.tsn = some b) {n : Nat} (hn : Wh (s.L ++ [c]) (numsN b n) b n) : c.tsn ∉ numsN b n := by
  intro hm
  obtain ⟨g, k, h1, h2, h3, h4, h5, h6, _, _, h7, h8, ⟨x, hx, hfx⟩, ⟨y, hy, hly⟩, hl, hr⟩ := rowC_facts h hc
  obtain ⟨i, hi, e1⟩ := mem_numsN.1 hm
  rw [h2] at h5
  obtain ⟨j, hj, e2⟩ := mem_numsN.1 h5
  have hbr := hn.rng
  have hnf := hn.few
  have hij : i = j := by
    rcases Nat.lt_trichotomy i j with hlt | heq | hgt
    · exfalso
      have hfit := h3 (j - i - 1) (by omega)
      have e3 : (g + ((j - i - 1 + 1 : Nat) : Int)) % 4294967296 = b := by omega
      rw [e3] at hfit
      obtain ⟨z, hz, hz2⟩ := hn.bg
      rw [fit_bg hfit hz] at hz2
      cases hz2
    · exact heq
    · exfalso
      have hfit := hn.fits (i - j - 1) (by omega)
      have e3 : (b + ((i - j - 1 + 1 : Nat) : Int)) % 4294967296 = g := by omega
      have e4 : (b + ((i - j - 1 : Nat) : Int)) % 4294967296 = dn1 g := by rw [dn1_mod]; omega
      rw [e3, e4, hl] at hfit
      cases hfit
  subst hij
  have hgb : g = b := by omega
  subst hgb
  have hkn : k = n := by
    rcases Nat.lt_trichotomy k n with hlt | heq | hgt
    · exfalso
      have hfit := hn.fits k hlt
      have e3 : (g + ((k + 1 : Nat) : Int)) % 4294967296 = up1 ((g + (k : Int)) % 4294967296) := by rw [up1_mod]; omega
      rw [e3, hr] at hfit
      cases hfit
    · exact heq
    · exfalso
      obtain ⟨z, hz, hz2⟩ := hn.en
      rw [fit_en (h3 n hgt) hz] at hz2
      cases hz2
  subst hkn
  obtain ⟨z, hz, hz2⟩ := hn.bg
  obtain ⟨u, hu, hu2⟩ := hn.en
  rw [hx] at hz; cases hz
  rw [hy] at hu; cases hu
  have : whC s c = true := by unfold whC; rw [hfx, hly, hz2, hu2]; rfl
  rw [this] at hw
  cases hw
/-! turns -/
abbrev heads (s : St) : List Int := s.wh.map fun r => r.headD 0
def due (s : St) (r : List Int) : Bool :=
  match look s.L (r.headD 0) with
  | some x => x.r.f4 == s.nx.getD x.r.f3.toNat 0
  | none => false
/-- all that is due is of one stream -/
def Only (s : St) (st : Int) : Prop := ∀ r ∈ s.wh, due s r = isTurn s st r
def Quiet (s : St) : Prop := ∀ r ∈ s.wh, due s r = false
theorem isTurn_due {st : Int} {r : List Int} (h : isTurn s st r = true) : due s r = true := by
  unfold isTurn at h
  unfold due
  cases hx : look s.L (r.headD 0) with
  | none => rw [hx] at h; cases h
  | some x =>
    rw [hx] at h
    simp only [Bool.and_eq_true, beq_iff_eq] at h ⊢
    rw [h.1]; exact h.2
theorem Quiet.only (h : Quiet s) (st : Int) : Only s st := fun r hr => by
  rw [h r hr]
  cases ht : isTurn s st r with
  | false => rfl
  | true => have := isTurn_due ht; rw [h r hr] at this; cases this
theorem mem_head {r : List Int} (h : r ≠ []) : r.headD 0 ∈ r := by
  cases r with
  | nil => exact absurd rfl h
  | cons a l => simp
theorem heads_nodup (h : OkA s) : (heads s).Nodup := by
  unfold List.Nodup heads
  rw [List.pairwise_map]
  refine List.Pairwise.imp_of_mem ?_ h.dis
  intro a b ha hb hab e
  have h1 := mem_head (h.rows a ha).1
  have h2 := mem_head (h.rows b hb).1
  rw [e] at h1
  exact hab _ h1 h2
theorem heads_erase (h : OkA s) {i : Nat} {row : List Int} (hi : s.wh[i]? = some row) : (heads s).filter (· != row.headD 0) = (s.wh.eraseIdx i).map fun r => r.headD 0 := by
  have hn := heads_nodup h
  have hg : (heads s)[i]? = some (row.headD 0) := by rw [List.getElem?_map, hi]; rfl
  have e1 : (s.wh.eraseIdx i).map (fun r => r.headD 0) = (heads s).eraseIdx i := by
    unfold heads
    rw [List.eraseIdx_eq_take_drop_succ, List.eraseIdx_eq_take_drop_succ, List.map_append, List.map_take, List.map_drop]
  rw [e1]
  generalize heads s = X at hn hg
  generalize row.headD 0 = f at hg
  clear e1 hi
  induction X generalizing i with
  | nil => cases hg
  | cons x X ih =>
    rw [List.nodup_cons] at hn
    cases i with
    | zero =>
      simp only [List.getElem?_cons_zero, Option.some.injEq] at hg
      subst hg
      rw [List.eraseIdx_zero, List.tail_cons, List.filter_cons]
      simp only [bne_self_eq_false, Bool.false_eq_true, if_false]
      rw [List.filter_eq_self]
      intro y hy
      have : y ≠ x := fun e => hn.1 (e ▸ hy)
      simpa using this
    | succ i =>
      have hxf : x ≠ f := fun e => hn.1 (by rw [e]; exact List.mem_of_getElem? hg)
      rw [List.eraseIdx_cons_succ, List.filter_cons]
      simp only [bne_iff_ne, ne_eq, hxf, not_false_eq_true, if_true]
      rw [ih hn.2 hg]
theorem look_tellA {r : List Int} (h : OkA s) (hr : r ∈ s.wh) (hd : ∀ t ∈ row, t ∉ r) : look (tellS s row).L (r.headD 0) = look s.L (r.headD 0) := by
  refine look_filter fun x hx => ?_
  have hm := mem_head (h.rows r hr).1
  have : x.tsn ∉ row := fun hc => hd _ hc (by rw [hx]; exact hm)
  simpa using this
theorem getD_set_ne {l : List Int} {i j : Nat} {v : Int} (h : i ≠ j) : (l.set i v).getD j 0 = l.getD j 0 := by
  rw [List.getD_eq_getElem?_getD, List.getD_eq_getElem?_getD, List.getElem?_set_ne h]
theorem only_step {st : Int} {i : Nat} (h : OkB s) (ho : Only s st) (hst : 0 ≤ st) (hi : s.wh[i]? = some row) : Only (tellS (outS s st i) row) st := by
  intro r hr
  have hr' : r ∈ (outS s st i).wh := hr
  have hro : r ∈ s.wh := (List.eraseIdx_sublist _ _).subset hr'
  have hdis := out_dis h.toOkA (st := st) hi r hr'
  have hlk := look_tellA (out_ok h.toOkA st i) hr' hdis
  have hlk2 : look (tellS (outS s st i) row).L (r.headD 0) = look s.L (r.headD 0) := hlk
  have h0 := ho r hro
  unfold due isTurn at h0 ⊢
  rw [hlk2]
  cases hx : look s.L (r.headD 0) with
  | none => rfl
  | some x =>
    rw [hx] at h0
    simp only at h0 ⊢
    have hxr := (h.rng x (look_some hx).1).2.1
    by_cases hf : x.r.f3 = st
    · rw [hf]; simp
    · have e1 : (x.r.f3 == st) = false := by simpa using hf
      rw [e1, Bool.false_and] at h0 ⊢
      have e2 : (tellS (outS s st i) row).nx.getD x.r.f3.toNat 0 = s.nx.getD x.r.f3.toNat 0 := getD_set_ne (by omega)
      rw [e2]
      exact h0
theorem quiet_end {st : Int} : ∀ (n : Nat) {s : St}, OkB s → Only s st → 0 ≤ st → s.wh.length < n → Quiet (turnS n s st)
  | 0, s, _, _, _, hn => by omega
  | n + 1, s, h, ho, hst, hn => by
    unfold turnS
    cases hf : s.wh.findIdx? (isTurn s st) with
    | none =>
      intro r hr
      rw [ho r hr]
      have := List.findIdx?_eq_none_iff.1 hf r hr
      simpa using this
    | some i =>
      obtain ⟨hlt, _⟩ := List.findIdx?_eq_some_iff_getElem.1 hf
      have hi : s.wh[i]? = some (s.wh.getD i []) := by
        rw [List.getD_eq_getElem?_getD, List.getElem?_eq_getElem hlt]; rfl
      refine quiet_end n (turn_stepB (st := st) h hi) (only_step h ho hst hi) hst ?_
      show (s.wh.eraseIdx i).length < n
      rw [List.length_eraseIdx_of_lt hlt]
      omega
theorem quiet_look {s' : St} (h : Quiet s) (hw : ∀ r ∈ s'.wh, r ∈ s.wh) (hl : ∀ r ∈ s'.wh, look s'.L (r.headD 0) = look s.L (r.headD 0)) (hn : s'.nx = s.nx) : Quiet s' := fun r hr => by
  have := h r (hw r hr)
  unfold due at this ⊢
  rw [hl r hr, hn]
  exact this
theorem quiet_take (h : Quiet s) : Quiet (takeS s) := quiet_look h (fun _ hr => hr) (fun _ _ => rfl) rfl
theorem quiet_move (h : Quiet s) (cum : Int) : Quiet (moveS s cum) := quiet_look h (fun _ hr => hr) (fun _ _ => rfl) rfl
theorem quiet_drop (hok : OkB s) (h : Quiet s) (t : Int) : Quiet (dropS s t) := by
  refine quiet_look h (fun r hr => (List.mem_filter.1 hr).1) (fun r hr => look_filter fun x hx => ?_) rfl
  obtain ⟨h1, h2⟩ := List.mem_filter.1 hr
  have hm := mem_head (hok.rows r h1).1
  have : t ∉ r := by simpa using h2
  have : x.tsn ≠ t := fun e => this (by rw [← e, hx]; exact hm)
  simpa using this
theorem quiet_dropT (hok : OkB s) (h : Quiet s) (t : Int) : Quiet (dropT s t) := by
  unfold dropT
  split
  · exact quiet_drop hok h t
  · exact h
theorem quiet_put1 (hok : OkB s) (h : Quiet s) : Quiet (put1 s c) := by
  refine quiet_look h (fun _ hr => hr) (fun r hr => ?_) rfl
  obtain ⟨h1, _, h3⟩ := hok.rows r hr
  exact look_snoc (h3 _ (mem_head h1))
theorem only_put2 (hok : OkB s) (h1 : OkB (put1 s c)) (hc : CkOk c) (hnew : c.tsn ∉ keys s.L) (h : Quiet s) : Only (put2 s c) c.r.f3 := by
  intro r hr
  rcases List.mem_append.1 hr with hr | hr
  · have := (quiet_put1 (c := c) hok h).only c.r.f3 r hr
    exact this
  · rw [List.mem_singleton] at hr
    subst hr
    obtain ⟨q1, _, q3⟩ := rowC_same h1 hc hnew
    unfold due isTurn
    rw [show look (put2 s c).L ((rowC s c).headD 0) = some (fstC s c) from q3]
    simp only
    rw [q1]
    simp
theorem quiet_put (hok : OkB s) (hc : CkOk c) (hl : s.lim ≤ 1073741824) (h : Quiet s) : Quiet (putT s c) := by
  unfold putT
  split
  · rename_i he
    obtain ⟨h1, _⟩ := put1_ok hok hc hl he
    have hnew := (putE_0 he).2.2.2.2.1
    unfold putS
    by_cases hw : whC s c = true
    · rw [if_pos hw]
      obtain ⟨g, n, _, _, _, _, h5, h6, h7, h8, _⟩ := rowC_facts h1 hc
      by_cases hu : (fstC s c).has 4 = true
      · rw [if_pos hu]
        have hq := quiet_put1 (c := c) hok h
        have hdis := rowC_dis hok h1 hc hnew hw
        exact quiet_look hq (fun _ hr => hr) (fun r hr => look_tellA h1.toOkA hr (hdis r hr)) rfl
      · rw [if_neg hu]
        obtain ⟨h3, _⟩ := put2_ok hok h1 hc hnew hw
        refine quiet_end _ h3 (only_put2 hok h1 hc hnew h) hc.s.1 ?_
        show (s.wh ++ [rowC s c]).length < _
        simp
    · rw [if_neg hw]
      exact quiet_put1 hok h
  · exact h
end
end Go.Proofs.Ytaflmpbeonoilaa
