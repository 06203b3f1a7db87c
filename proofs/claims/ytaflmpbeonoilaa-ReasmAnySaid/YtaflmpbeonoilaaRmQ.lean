/-
  Whole rows, plain: no two of them share a number; a chunk put.
-/
import Derived.Test.YtaflmpbeonoilaaRmJ
namespace Go.Proofs.Ytaflmpbeonoilaa
open Go Go.Sh
theorem numsN_length (f : Int) (n : Nat) : (numsN f n).length = n + 1 := by simp [numsN]
theorem mem_numsN {f t : Int} {n : Nat} : t ∈ numsN f n ↔ ∃ i : Nat, i ≤ n ∧ t = (f + (i : Int)) % 4294967296 := by
  unfold numsN
  rw [List.mem_map]
  constructor
  · rintro ⟨i, hi, rfl⟩; rw [List.mem_range] at hi; exact ⟨i, by omega, rfl⟩
  · rintro ⟨i, hi, rfl⟩; exact ⟨i, List.mem_range.2 (by omega), rfl⟩
theorem numsN_nodup {f : Int} {n : Nat} (h : n ≤ 4294967295) : (numsN f n).Nodup := by
  unfold List.Nodup numsN
  rw [List.pairwise_map]
  refine List.Pairwise.imp_of_mem ?_ (List.nodup_range (n := n + 1))
  intro a b ha hb hab
  rw [List.mem_range] at ha hb
  omega
theorem numsN_head {f : Int} {n : Nat} (h : 0 ≤ f ∧ f < 4294967296) : (numsN f n).headD 0 = f := by
  cases n with
  | zero => rw [numsN_zero h]; rfl
  | succ n => rw [numsN_succ n h]; rfl
theorem numsN_get {f : Int} {n i : Nat} (h : i ≤ n) : (numsN f n)[i]? = some ((f + (i : Int)) % 4294967296) := by
  unfold numsN
  rw [List.getElem?_map, List.getElem?_range (by omega)]
  rfl
theorem numsN_ne (f : Int) (n : Nat) : numsN f n ≠ [] := fun e => by
  have := numsN_length f n
  rw [e] at this
  cases this
/-- the row of a held chunk -/
theorem row_nums {L : List Ch} {t : Int} (hl : L.length ≤ 4000000000) (ht : 0 ≤ t ∧ t < 4294967296) (hk : t ∈ keys L) :
    ∃ g n m, (0 ≤ g ∧ g < 4294967296) ∧ rowOf L t = numsN g n ∧ fitsN L g n ∧ m ≤ n ∧ t = (g + (m : Int)) % 4294967296 ∧ n + 1 ≤ L.length ∧ (∀ u ∈ rowOf L t, u ∈ keys L) ∧ fitB L (dn1 g) g = false ∧ fitB L ((g + (n : Int)) % 4294967296) (up1 ((g + (n : Int)) % 4294967296)) = false := by
  have hs := goB_stop (L := L) (by omega) ht
  have hr := goB_rng (L := L) L.length ht
  have he := goF_stop (L := L) (by omega) hr
  obtain ⟨m, hm, h1, h2⟩ := goB_nums (L := L) L.length ht
  obtain ⟨n, hn, h3, h4, h5⟩ := goF_nums (L := L) L.length hr he
  have hmn : m ≤ n := by
    apply Nat.le_of_not_lt
    intro hlt
    have := h2 n hlt
    have e : (goB L L.length t + ((n + 1 : Nat) : Int)) % 4294967296 = up1 ((goB L L.length t + (n : Int)) % 4294967296) := by rw [up1_mod]; omega
    rw [e, h5] at this
    cases this
  have hall : ∀ i : Nat, i ≤ n → (goB L L.length t + (i : Int)) % 4294967296 ∈ keys L := by
    intro i hi
    by_cases h0 : n = 0
    · have : m = 0 := by omega
      subst this
      have : i = 0 := by omega
      subst this
      rw [← h1]; exact hk
    · by_cases hin : i < n
      · exact (fit_mem (h4 i hin)).1
      · obtain ⟨j, rfl⟩ : ∃ j, i = j + 1 := ⟨i - 1, by omega⟩
        exact (fit_mem (h4 j (by omega))).2
  refine ⟨goB L L.length t, n, m, hr, h3, h4, hmn, h1, run_len (by omega) hall, ?_, hs, h5⟩
  intro u hu
  unfold rowOf at hu
  rw [h3, mem_numsN] at hu
  obtain ⟨i, hi, rfl⟩ := hu
  exact hall i hi
/-- a whole row -/
structure Wh (L : List Ch) (row : List Int) (f : Int) (n : Nat) : Prop where
  rng : 0 ≤ f ∧ f < 4294967296
  row : row = numsN f n
  few : n ≤ 40000
  fits : fitsN L f n
  bg : ∃ x, look L f = some x ∧ x.has 2 = true
  en : ∃ x, look L ((f + (n : Int)) % 4294967296) = some x ∧ x.has 1 = true
theorem fit_bg {L : List Ch} {a b : Int} {y : Ch} (h : fitB L a b = true) (hy : look L b = some y) : y.has 2 = false := by
  obtain ⟨x, y', ha, hb, hf⟩ := fit_held h
  rw [hy] at hb; cases hb
  unfold fit2 at hf
  cases e : y.has 2 with
  | false => rfl
  | true => rw [e] at hf; cases hf
theorem fit_en {L : List Ch} {a b : Int} {x : Ch} (h : fitB L a b = true) (hx : look L a = some x) : x.has 1 = false := by
  obtain ⟨x', y, ha, hb, hf⟩ := fit_held h
  rw [hx] at ha; cases ha
  unfold fit2 at hf
  cases e : x.has 1 with
  | false => rfl
  | true => rw [e] at hf; cases e2 : y.has 2 <;> rw [e2] at hf <;> cases hf
theorem wh_first {L : List Ch} {r1 r2 : List Int} {f1 f2 : Int} {n1 n2 i j : Nat} (h1 : Wh L r1 f1 n1) (h2 : Wh L r2 f2 n2) (hj : j ≤ n2) (hij : i ≤ j) (e : (f1 + (i : Int)) % 4294967296 = (f2 + (j : Int)) % 4294967296) : i = j := by
  apply Nat.le_antisymm hij
  apply Nat.le_of_not_lt
  intro hlt
  obtain ⟨x, hx, hb⟩ := h1.bg
  have r1 := h1.rng
  have r2 := h2.rng
  have hf := h2.few
  have hfit := h2.fits (j - i - 1) (by omega)
  have e1 : (f2 + ((j - i - 1 + 1 : Nat) : Int)) % 4294967296 = f1 := by omega
  rw [e1] at hfit
  rw [fit_bg hfit hx] at hb
  cases hb
/-- two whole rows with a number in common are one -/
theorem wh_one {L : List Ch} {r1 r2 : List Int} {f1 f2 : Int} {n1 n2 : Nat} {t : Int} (h1 : Wh L r1 f1 n1) (h2 : Wh L r2 f2 n2) (m1 : t ∈ r1) (m2 : t ∈ r2) : f1 = f2 ∧ n1 = n2 := by
  rw [h1.row, mem_numsN] at m1
  rw [h2.row, mem_numsN] at m2
  obtain ⟨i, hi, e1⟩ := m1
  obtain ⟨j, hj, e2⟩ := m2
  have e := e1.symm.trans e2
  have hij : i = j := by
    rcases Nat.le_total i j with h | h
    · exact wh_first h1 h2 hj h e
    · exact (wh_first h2 h1 hi h e.symm).symm
  subst hij
  have q1 := h1.rng
  have q2 := h2.rng
  have hf : f1 = f2 := by have := h1.few; omega
  subst hf
  refine ⟨rfl, ?_⟩
  have key : ∀ {n1 n2 : Nat} {r1 r2 : List Int}, Wh L r1 f1 n1 → Wh L r2 f1 n2 → ¬ n1 < n2 := by
    intro n1 n2 r1 r2 g1 g2 hlt
    obtain ⟨x, hx, hb⟩ := g1.en
    have := fit_en (g2.fits n1 hlt) hx
    rw [this] at hb
    cases hb
  have k1 := key h1 h2
  have k2 := key h2 h1
  omega
theorem wh_mono {L L' : List Ch} {row : List Int} {f : Int} {n : Nat} (h : Wh L row f n) (hl : ∀ t ∈ row, look L' t = look L t) : Wh L' row f n := by
  have hm : ∀ i : Nat, i ≤ n → look L' ((f + (i : Int)) % 4294967296) = look L ((f + (i : Int)) % 4294967296) := fun i hi => hl _ (by rw [h.row, mem_numsN]; exact ⟨i, hi, rfl⟩)
  have h0 := hm 0 (Nat.zero_le _)
  have hr := h.rng
  have e0 : (f + ((0 : Nat) : Int)) % 4294967296 = f := by omega
  rw [e0] at h0
  refine ⟨h.rng, h.row, h.few, fun i hi => ?_, ?_, ?_⟩
  · have := h.fits i hi
    unfold fitB at this ⊢
    rw [hm i (by omega), hm (i + 1) (by omega)]
    exact this
  · rw [h0]; exact h.bg
  · rw [hm n (Nat.le_refl _)]; exact h.en
structure OkB (s : St) : Prop extends OkA s where
  frng : ∀ t ∈ s.F, 0 ≤ t ∧ t < 4294967296
  whole : ∀ row ∈ s.wh, ∃ f n, Wh s.L row f n
def put1 (s : St) (c : Ch) : St := { s with L := s.L ++ [c] }
def rowC (s : St) (c : Ch) : List Int := rowOf (s.L ++ [c]) c.tsn
def fstC (s : St) (c : Ch) : Ch := (look (s.L ++ [c]) ((rowC s c).headD 0)).getD ⟨R35.z, []⟩
def lstC (s : St) (c : Ch) : Ch := (look (s.L ++ [c]) ((rowC s c).getLastD 0)).getD ⟨R35.z, []⟩
def whC (s : St) (c : Ch) : Bool := (fstC s c).has 2 && (lstC s c).has 1
def put2 (s : St) (c : Ch) : St := { put1 s c with wh := s.wh ++ [rowC s c] }
def putS (s : St) (c : Ch) : St :=
  if whC s c = true then (if (fstC s c).has 4 = true then tellS (put1 s c) (rowC s c) else turnS (s.wh.length + 2) (put2 s c) c.r.f3) else put1 s c
def putE (s : St) (c : Ch) : Int :=
  if c.r.f0 ≠ 0 ∨ c.b.length = 0 ∨ (65531 : Int) < c.b.length then 201
  else if (s.nx.length : Int) ≤ c.r.f3 then 160
  else if (look s.L c.tsn).isSome = true ∨ c.tsn ∈ s.F then 200
  else if s.lim - (tot s : Int) < c.b.length then 161
  else if 32768 ≤ s.L.length + s.F.length then 3 else 0
section
variable {s : St} {c : Ch} {row : List Int}
theorem look_snoc {L : List Ch} {t : Int} (h : t ∈ keys L) : look (L ++ [c]) t = look L t := by
  have := look_isSome.2 h
  unfold look at this ⊢
  rw [List.find?_append]
  cases hf : L.find? fun x => x.tsn == t with
  | none => rw [hf] at this; cases this
  | some x => rfl
theorem tell_okB (h : OkB s) (hne : row ≠ []) (hn : row.Nodup) (hm : ∀ t ∈ row, t ∈ keys s.L) (hd : ∀ r ∈ s.wh, ∀ t ∈ row, t ∉ r) : OkB (tellS s row) := by
  refine ⟨tell_ok h.toOkA hne hn hm hd, fun t ht => ?_, fun r hr => ?_⟩
  · rcases List.mem_append.1 ht with ht | ht
    · exact h.frng t ht
    · obtain ⟨x, hx, rfl⟩ := List.mem_map.1 (hm t ht)
      exact (h.rng x hx).1
  obtain ⟨f, n, hw⟩ := h.whole r hr
  refine ⟨f, n, wh_mono hw fun t ht => ?_⟩
  refine look_filter fun x hx => ?_
  rw [hx]
  have : t ∉ row := fun hc => hd r hr t hc ht
  simpa using this
theorem turn_stepB (h : OkB s) {st : Int} {i : Nat} (hi : s.wh[i]? = some row) : OkB (tellS (outS s st i) row) := by
  obtain ⟨h1, h2, h3⟩ := h.rows row (List.mem_of_getElem? hi)
  have ho : OkB (outS s st i) := ⟨out_ok h.toOkA st i, h.frng, fun r hr => h.whole r ((List.eraseIdx_sublist _ _).subset hr)⟩
  exact tell_okB ho h1 h2 h3 (out_dis h.toOkA hi)
theorem turn_okB : ∀ (n : Nat) {s : St} {st : Int}, OkB s → OkB (turnS n s st)
  | 0, _, _, h => h
  | n + 1, s, st, h => by
    unfold turnS
    cases hf : s.wh.findIdx? (isTurn s st) with
    | none => exact h
    | some i =>
      obtain ⟨hlt, _⟩ := List.findIdx?_eq_some_iff_getElem.1 hf
      have hi : s.wh[i]? = some (s.wh.getD i []) := by
        rw [List.getD_eq_getElem?_getD, List.getElem?_eq_getElem hlt]; rfl
      exact turn_okB n (turn_stepB (st := st) h hi)
theorem putE_0 (h : putE s c = 0) : c.r.f0 = 0 ∧ c.b ≠ [] ∧ (c.b.length : Int) ≤ 65531 ∧ c.r.f3 < s.nx.length ∧ c.tsn ∉ keys s.L ∧ c.tsn ∉ s.F ∧ (c.b.length : Int) ≤ s.lim - tot s ∧ s.L.length + s.F.length < 32768 := by
  unfold putE at h
  by_cases h1 : c.r.f0 ≠ 0 ∨ c.b.length = 0 ∨ (65531 : Int) < c.b.length
  · rw [if_pos h1] at h; cases h
  rw [if_neg h1] at h
  by_cases h2 : (s.nx.length : Int) ≤ c.r.f3
  · rw [if_pos h2] at h; cases h
  rw [if_neg h2] at h
  by_cases h3 : (look s.L c.tsn).isSome = true ∨ c.tsn ∈ s.F
  · rw [if_pos h3] at h; cases h
  rw [if_neg h3] at h
  by_cases h4 : s.lim - (tot s : Int) < c.b.length
  · rw [if_pos h4] at h; cases h
  rw [if_neg h4] at h
  by_cases h5 : 32768 ≤ s.L.length + s.F.length
  · rw [if_pos h5] at h; cases h
  refine ⟨by omega, fun e => h1 (.inr (.inl (by rw [e]; rfl))), by omega, by omega, fun hk => h3 (.inl (look_isSome.2 hk)), fun hk => h3 (.inr hk), by omega, by omega⟩
theorem szL_snoc (L : List Ch) (c : Ch) : szL (L ++ [c]) = szL L + c.b.length := by unfold szL; simp
structure CkOk (c : Ch) : Prop where
  t : 0 ≤ c.tsn ∧ c.tsn < 4294967296
  s : 0 ≤ c.r.f3 ∧ c.r.f3 < 65536
theorem put1_ok (h : OkB s) (hc : CkOk c) (hl : s.lim ≤ 1073741824) (he : putE s c = 0) : OkB (put1 s c) ∧ tot (put1 s c) = tot s + c.b.length := by
  obtain ⟨_, e2, e3, e4, e5, e6, e7, e8⟩ := putE_0 he
  have ht : tot (put1 s c) = tot s + c.b.length := by
    unfold tot put1
    simp only
    rw [szL_snoc]; omega
  have hk : keys (put1 s c).L = keys s.L ++ [c.tsn] := by unfold put1 keys; simp
  refine ⟨⟨⟨?_, ?_, h.fix, ?_, ?_, ?_, h.dis, h.mne, ?_⟩, h.frng, ?_⟩, ht⟩
  · rw [hk]
    exact List.nodup_append.2 ⟨h.key, by simp, fun a ha b hb e => by rw [List.mem_singleton] at hb; subst hb; subst e; exact e5 ha⟩
  · intro x hx
    rcases List.mem_append.1 hx with hx | hx
    · exact h.rng x hx
    · rw [List.mem_singleton] at hx
      subst hx
      exact ⟨hc.t, ⟨hc.s.1, e4⟩, e2⟩
  · intro t hf hkk
    rw [hk] at hkk
    rcases List.mem_append.1 hkk with hkk | hkk
    · exact h.fkey t hf hkk
    · rw [List.mem_singleton] at hkk; subst hkk; exact e6 hf
  · show (s.L ++ [c]).length + s.F.length ≤ 32768
    rw [List.length_append, List.length_singleton]; omega
  · intro r hr
    obtain ⟨h1, h2, h3⟩ := h.rows r hr
    exact ⟨h1, h2, fun t ht => by rw [hk]; exact List.mem_append.2 (.inl (h3 t ht))⟩
  · rw [ht]; omega
  · intro r hr
    obtain ⟨f, n, hw⟩ := h.whole r hr
    exact ⟨f, n, wh_mono hw fun t ht => look_snoc ((h.rows r hr).2.2 t ht)⟩
/-- the row of the chunk that is put -/
theorem rowC_facts (h : OkB (put1 s c)) (hc : CkOk c) : ∃ g n, (0 ≤ g ∧ g < 4294967296) ∧ rowC s c = numsN g n ∧ fitsN (s.L ++ [c]) g n ∧ n ≤ 32768 ∧ c.tsn ∈ rowC s c ∧ (∀ u ∈ rowC s c, u ∈ keys (s.L ++ [c])) ∧ rowC s c ≠ [] ∧ (rowC s c).Nodup ∧ (rowC s c).headD 0 = g ∧ (rowC s c).getLastD 0 = (g + (n : Int)) % 4294967296 ∧
    (∃ x, look (s.L ++ [c]) g = some x ∧ fstC s c = x) ∧ (∃ x, look (s.L ++ [c]) ((g + (n : Int)) % 4294967296) = some x ∧ lstC s c = x) ∧
    fitB (s.L ++ [c]) (dn1 g) g = false ∧ fitB (s.L ++ [c]) ((g + (n : Int)) % 4294967296) (up1 ((g + (n : Int)) % 4294967296)) = false := by
  have hcnt : (s.L ++ [c]).length ≤ 32768 := by
    have h2 := h.cnt
    have h1 : (put1 s c).L.length = (s.L ++ [c]).length := rfl
    omega
  have hk : c.tsn ∈ keys (s.L ++ [c]) := by unfold keys; simp
  obtain ⟨g, n, m, h1, h2, h3, h4, h5, h6, h7, h8, h9⟩ := row_nums (L := s.L ++ [c]) (by omega) hc.t hk
  have hrow : rowC s c = numsN g n := h2
  have hh : (rowC s c).headD 0 = g := by rw [hrow]; exact numsN_head h1
  have hlast : (rowC s c).getLastD 0 = (g + (n : Int)) % 4294967296 := by
    rw [List.getLastD_eq_getLast?, List.getLast?_eq_getElem?, hrow, numsN_length, Nat.add_sub_cancel, numsN_get (Nat.le_refl _)]
    rfl
  have hin : ∀ {t}, t ∈ rowC s c → ∃ x, look (s.L ++ [c]) t = some x := fun {t} ht => Option.isSome_iff_exists.1 (look_isSome.2 (h7 t ht))
  obtain ⟨x, hx⟩ := hin (t := g) (by rw [hrow, mem_numsN]; exact ⟨0, Nat.zero_le _, by omega⟩)
  obtain ⟨y, hy⟩ := hin (t := (g + (n : Int)) % 4294967296) (by rw [hrow, mem_numsN]; exact ⟨n, Nat.le_refl _, rfl⟩)
  refine ⟨g, n, h1, hrow, h3, by omega, ?_, h7, by rw [hrow]; exact numsN_ne _ _, by rw [hrow]; exact numsN_nodup (by omega), hh, hlast, ⟨x, hx, ?_⟩, ⟨y, hy, ?_⟩, h8, h9⟩
  · rw [hrow, mem_numsN]; exact ⟨m, h4, h5⟩
  · unfold fstC; rw [hh, hx]; rfl
  · unfold lstC; rw [hlast, hy]; rfl
theorem rowC_wh (h : OkB (put1 s c)) (hc : CkOk c) (hw : whC s c = true) : ∃ g n, Wh (s.L ++ [c]) (rowC s c) g n := by
  obtain ⟨g, n, h1, h2, h3, h4, _, _, _, _, _, _, ⟨x, hx, hfx⟩, ⟨y, hy, hly⟩, _⟩ := rowC_facts h hc
  unfold whC at hw
  rw [Bool.and_eq_true, hfx, hly] at hw
  exact ⟨g, n, h1, h2, by omega, h3, ⟨x, hx, hw.1⟩, ⟨y, hy, hw.2⟩⟩
theorem rowC_dis (h0 : OkB s) (h : OkB (put1 s c)) (hc : CkOk c) (hnew : c.tsn ∉ keys s.L) (hw : whC s c = true) : ∀ r ∈ s.wh, ∀ t ∈ rowC s c, t ∉ r := by
  intro r hr t ht htr
  obtain ⟨g, n, hg⟩ := rowC_wh h hc hw
  obtain ⟨f, m, hf⟩ := h.whole r hr
  obtain ⟨e1, e2⟩ := wh_one hg hf ht htr
  subst e1 e2
  have hce : c.tsn ∈ rowC s c := (rowC_facts h hc).choose_spec.choose_spec.2.2.2.2.1
  rw [hg.row, ← hf.row] at hce
  exact hnew ((h0.rows r hr).2.2 _ hce)
theorem put2_ok (h0 : OkB s) (h : OkB (put1 s c)) (hc : CkOk c) (hnew : c.tsn ∉ keys s.L) (hw : whC s c = true) : OkB (put2 s c) ∧ tot (put2 s c) = tot (put1 s c) := by
  obtain ⟨g, n, _, _, _, _, h5, h6, h7, h8, _⟩ := rowC_facts h hc
  refine ⟨⟨⟨h.key, h.rng, h.fix, h.fkey, h.cnt, ?_, ?_, h.mne, h.tot⟩, h.frng, ?_⟩, rfl⟩
  · intro r hr
    rcases List.mem_append.1 hr with hr | hr
    · exact h.rows r hr
    · rw [List.mem_singleton] at hr; subst hr; exact ⟨h7, h8, h6⟩
  · show (s.wh ++ [rowC s c]).Pairwise _
    rw [List.pairwise_append]
    exact ⟨h.dis, by simp, fun a ha b hb t hta htb => by
      rw [List.mem_singleton] at hb; subst hb
      exact rowC_dis h0 h hc hnew hw a ha t htb hta⟩
  · intro r hr
    rcases List.mem_append.1 hr with hr | hr
    · exact h.whole r hr
    · rw [List.mem_singleton] at hr; subst hr; exact rowC_wh h hc hw
theorem put_ok (h : OkB s) (hc : CkOk c) (hl : s.lim ≤ 1073741824) (he : putE s c = 0) : OkB (putS s c) ∧ tot (putS s c) = tot s + c.b.length := by
  obtain ⟨h1, h2⟩ := put1_ok h hc hl he
  have hnew := (putE_0 he).2.2.2.2.1
  unfold putS
  by_cases hw : whC s c = true
  · rw [if_pos hw]
    obtain ⟨g, n, _, _, _, _, h5, h6, h7, h8, _⟩ := rowC_facts h1 hc
    by_cases hu : (fstC s c).has 4 = true
    · rw [if_pos hu]
      exact ⟨tell_okB h1 h7 h8 h6 (rowC_dis h h1 hc hnew hw), by rw [tot_tell h1.toOkA h7 h8 h6, h2]⟩
    · rw [if_neg hu]
      obtain ⟨h3, h4⟩ := put2_ok h h1 hc hnew hw
      exact ⟨turn_okB _ h3, by rw [(turn_ok _ h3.toOkA).2, h4, h2]⟩
  · rw [if_neg hw]
    exact ⟨h1, h2⟩
end
end Go.Proofs.Ytaflmpbeonoilaa
