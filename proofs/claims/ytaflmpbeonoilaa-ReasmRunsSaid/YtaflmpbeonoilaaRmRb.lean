/-
  The document's rows: their beginning, the row itself.
-/
import Derived.Test.YtaflmpbeonoilaaRmRa
namespace Go.Proofs.Ytaflmpbeonoilaa
open Go Go.Sh Go.RowKit
def bgn (L : List Ch) : Nat → Int → Option Int
  | 0, _ => none
  | n + 1, t => match look L t with
    | none => none
    | some x => if x.has 2 = true then some t else bgn L n (dn1 t)
def ecOf (es : List Ec) (t : Int) : Ec := (es.find? fun e => e.x.tsn == t).getD ⟨none, 0, ⟨R35.z, []⟩⟩
def rowE (es : List Ec) (f : Int) (n : Nat) : List Ec := (numsN f n).map (ecOf es)
theorem rowE_length (es : List Ec) (f : Int) (n : Nat) : (rowE es f n).length = n + 1 := by unfold rowE; rw [List.length_map, numsN_length]
theorem rowE_get (es : List Ec) (f : Int) {n i : Nat} (h : i ≤ n) : (rowE es f n)[i]? = some (ecOf es ((f + (i : Int)) % 4294967296)) := by
  unfold rowE
  rw [List.getElem?_map, numsN_get h]
  rfl
theorem numsN_snoc (f : Int) (n : Nat) : numsN f (n + 1) = numsN f n ++ [(f + ((n + 1 : Nat) : Int)) % 4294967296] := by
  unfold numsN
  rw [List.range_succ, List.map_append]
  rfl
theorem rowE_snoc (es : List Ec) (f : Int) (n : Nat) : rowE es f (n + 1) = rowE es f n ++ [ecOf es ((f + ((n + 1 : Nat) : Int)) % 4294967296)] := by
  unfold rowE
  rw [numsN_snoc, List.map_append]
  rfl
theorem ecOf_look {es : List Ec} {t : Int} {x : Ch} (h : look (pl es) t = some x) : (ecOf es t).x = x ∧ (es.find? fun e => e.x.tsn == t) = some (ecOf es t) := by
  obtain ⟨e, he, hex, _⟩ := look_map h
  unfold ecOf
  rw [he]
  exact ⟨hex, rfl⟩
theorem no_wh {L : List Ch} {f : Int} {i : Nat} {x : Ch} (hf : fitsN L f i) (hx : look L ((f + (i : Int)) % 4294967296) = some x) (hen : x.has 1 = false) (hno : fitB L ((f + (i : Int)) % 4294967296) ((f + ((i + 1 : Nat) : Int)) % 4294967296) = false) : ∀ n, ¬ Wh L (numsN f n) f n := by
  intro n hw
  rcases Nat.lt_trichotomy n i with h | h | h
  · obtain ⟨y, hy, hb⟩ := hw.en
    rw [fit_en (hf n h) hy] at hb
    cases hb
  · subst h
    obtain ⟨y, hy, hb⟩ := hw.en
    rw [hx] at hy
    cases hy
    rw [hen] at hb; cases hb
  · rw [hw.fits i h] at hno; cases hno
section
variable {W w : World} {L M Z : List HP} {rb lc : Nat} {la : Option Addr} {d : RD} {s : St} {es : List Ec} {Wl : List Int}
theorem c62 (h : RR w rb la lc es) (t : Int) (hl : es.length ≤ 4294967296) : Calls Try.prog 62 #[.pointer (some ⟨rb, 0, none⟩), .int .u32 t] w (rt fun v w' => v = .tuple #[.int .u32 ((bgn (pl es) (es.length + 1) t).getD 0), .bool (bgn (pl es) (es.length + 1) t).isSome] ∧ Same w w') := by
  refine F62_ok ?_
  unfold F62
  simp only [rdP_mk, rdI_mk]
  have loop : ∀ (m i k : Nat) (u : Int) (w1 : World) (K0 : World → Prop) (Kr : Value → Value → World → Prop), i + m = es.length + 1 → m < k → Same w w1 → (bgn (pl es) m u = none → ∀ w', Same w w' → K0 w' ∧ Kr (.int .u32 0) (.bool false) w') → (∀ b, bgn (pl es) m u = some b → ∀ w', Same w w' → Kr (.int .u32 b) (.bool true) w') →
      F62_1 K0 Kr k (.pointer (some ⟨rb, 0, none⟩)) (.int .u32 u) (.int .i64 (i : Int)) w1 := by
    intro m
    induction m with
    | zero =>
      intro i k u w1 K0 Kr hi hk hs h0 h1
      obtain ⟨k, rfl⟩ : ∃ j, k = j + 1 := ⟨k - 1, by omega⟩
      show F62_1B _ _ _ _ _ _ _
      unfold F62_1B
      simp only [rdP_mk, rdI_mk, nn_some, add_mk]
      refine (h.same hs).ld ?_
      rw [br_dec]
      exact ⟨fun hlt => by exfalso; omega, fun _ => (h0 rfl w1 hs).1⟩
    | succ m ih =>
      intro i k u w1 K0 Kr hi hk hs h0 h1
      obtain ⟨k, rfl⟩ : ∃ j, k = j + 1 := ⟨k - 1, by omega⟩
      show F62_1B _ _ _ _ _ _ _
      unfold F62_1B
      simp only [rdP_mk, rdI_mk, nn_some, add_mk]
      have hq := h.same hs
      unfold bgn at h0 h1
      refine hq.ld ?_
      rw [br_dec]
      refine ⟨fun _ => ?_, fun hlt => by exfalso; omega⟩
      refine clr (c60 hq u hl) ⟨_, rfl, ?_⟩
      cases hx : look (pl es) u with
      | none =>
        rw [hx] at h0
        rw [(idx_look (t := u)).2 hx]
        rw [br_dec]
        exact ⟨fun _ => (h0 rfl w1 hs).2, fun hge => absurd (show (-1 : Int) < 0 by decide) hge⟩
      | some x =>
        rw [hx] at h0 h1
        simp only at h0 h1
        obtain ⟨j, e, hj, he, hex, _⟩ := (idx_look (t := u)).1 x hx
        rw [hj]
        rw [br_dec]
        refine ⟨fun hlt => absurd hlt (by show ¬ ((j : Int) < 0); omega), fun _ => ?_⟩
        refine hq.ld (ch_ix hq.rd rfl he fun a ha => ?_)
        refine ldR35_of ha ?_
        refine cl (c65 _ _ _) ?_
        rintro _ w2 ⟨rfl, s2⟩
        refine ⟨_, rfl, ?_⟩
        have hs2 := hs.trans s2 fun _ _ x => x
        have hh : hr e.rc 2 = x.has 2 := by rw [← hex]; rfl
        rw [hh, br_iff]
        refine ⟨fun hb => h1 u (by rw [if_pos hb]) w2 hs2, fun hb => ?_⟩
        have e1 : IntKind.wrap .i64 ((i : Int) + 1) = ((i + 1 : Nat) : Int) := by rw [wrap_i64 (by omega) (by omega)]; omega
        rw [e1]
        refine ih (i + 1) k (dn1 u) w2 K0 Kr (by omega) (by omega) hs2 (fun hn w' hw => h0 (by rw [if_neg (by rw [hb]; simp)]; exact hn) w' hw) fun b hn w' hw => h1 b (by rw [if_neg (by rw [hb]; simp)]; exact hn) w' hw
  refine ⟨es.length + 2, loop (es.length + 1) 0 _ t w _ _ (by omega) (by omega) (Fr.refl w) (fun hn w' hw => ?_) fun b hb w' hw => ?_⟩
  · rw [hn]
    exact ⟨fun _g => ⟨by first | rfl | trivial, hw⟩, fun _g => by simp only [rdI_mk, rdB_mk]; exact ⟨by first | rfl | trivial, hw⟩⟩
  · rw [hb]
    intro _g
    simp only [rdI_mk, rdB_mk]
    exact ⟨by first | rfl | trivial, hw⟩
theorem pt_sl {b : Nat} {x : R35} (h : Hs W (pt b (.cells x.c 36 (0, 0)) :: M) w) : Hs W (slP 36 15 (some ⟨b, 0, none⟩) 1 1 x.l :: M) w :=
  h.weak 0 rfl fun y hy => ⟨rfl, .inr ⟨b, x.c, rfl, hy, Nat.le_refl _, by unfold maxLen; omega, rfl, rfl⟩⟩
theorem c64_2 {f : Int} {K0 Kr : Value → World → Prop} (hf0 : 0 ≤ f ∧ f < 4294967296) (hl : es.length ≤ 32769) (hrr : ∀ w', Hs W M w' → RR w' rb la lc es) (hbg : ∃ x, look (pl es) f = some x ∧ x.has 2 = true)
    (hK0 : ∀ n w' a c, Wh (pl es) (numsN f n) f n → Hs W (slP 36 15 a (n + 1) c (chV (rowE es f n)) :: M) w' → K0 (.slice a (n + 1) c) w')
    (hKr : (∀ n, ¬ Wh (pl es) (numsN f n) f n) → ∀ w', Hs W M w' → Kr (.slice none 0 0) w') :
    ∀ (m i k : Nat) (w : World) (a : Option Addr) (c : Nat), es.length ≤ i + m → fitsN (pl es) f i → i + 1 ≤ es.length → Hs W (slP 36 15 a (i + 1) c (chV (rowE es f i)) :: M) w → m < k →
      F64_2 K0 Kr k (.pointer (some ⟨rb, 0, none⟩)) (.slice a (i + 1) c) w := by
  intro m
  induction m with
  | zero =>
    intro i k w a c hi hf hil h hk
    omega
  | succ m ih =>
    intro i k w a c hi hf hil h hk
    obtain ⟨k, rfl⟩ : ∃ j, k = j + 1 := ⟨k - 1, by omega⟩
    have hheld : ∃ x, look (pl es) ((f + (i : Int)) % 4294967296) = some x := by
      rcases i with _ | i
      · obtain ⟨x, hx, _⟩ := hbg
        refine ⟨x, ?_⟩
        have e0 : (f + ((0 : Nat) : Int)) % 4294967296 = f := by omega
        rw [e0]; exact hx
      · obtain ⟨_, y, _, hy, _⟩ := fit_held (hf i (by omega))
        exact ⟨y, hy⟩
    obtain ⟨x, hx⟩ := hheld
    obtain ⟨hex, _⟩ := ecOf_look hx
    have hlast := rowE_get es f (Nat.le_refl i)
    obtain ⟨e, he⟩ : ∃ e, e = ecOf es ((f + (i : Int)) % 4294967296) := ⟨_, rfl⟩
    rw [← he] at hex hlast
    have hxt := (look_some hx).2
    show F64_2B _ _ _ _ _ _
    unfold F64_2B
    have e1 : IntKind.wrap .i64 (((i + 1 : Nat) : Int) - 1) = (i : Int) := by rw [wrap_i64 (by omega) (by omega)]; omega
    simp only [rdP_mk, rdC_mk, nn_some, add_mk, e1]
    have hlen := rowE_length es f i
    have hix : ∀ {w' : World} {K : Addr → Prop}, Rd w' a (chV (rowE es f i)) → (∀ ad, At w' ad e.rc.l → K ad) → ixS 15 a (i + 1) (i : Int) K := by
      intro w' K hr hk'
      have := ch_ix (K := K) hr (i := (i : Int)) rfl hlast hk'
      rw [hlen] at this
      exact this
    refine hix (h.rd 0 rfl) fun ad ha => ?_
    refine ldR35_of ha ?_
    refine cl (c65 _ _ _) ?_
    rintro _ w1 ⟨rfl, s1⟩
    refine ⟨_, rfl, ?_⟩
    have h1 := h.same s1
    have hh : ∀ q, hr e.rc q = x.has q := fun q => by rw [← hex]; rfl
    have g3 : e.rc.f3 = x.r.f3 := by rw [← hex]; rfl
    have g4 : e.rc.f4 = x.r.f4 := by rw [← hex]; rfl
    have g2 : e.rc.f2 = (f + (i : Int)) % 4294967296 := by rw [← hxt, ← hex]; rfl
    rw [hh, br_iff]
    refine ⟨fun hb => ?_, fun hb => hK0 i w1 a c ⟨hf0, rfl, by omega, hf, hbg, ⟨x, hx, by simpa using hb⟩⟩ h1⟩
    have hen : x.has 1 = false := by simpa using hb
    refine hix (h1.rd 0 rfl) fun ad ha => ?_
    refine ldR35_of ha ?_
    refine h1.alc fun b10 w2 h2 => ?_
    refine h2.stcL 0 rfl rfl fun w3 h3 => ?_
    have h3 : Hs W (pt b10 (.cells e.rc.c 36 (0, 0)) :: slP 36 15 a (i + 1) c (chV (rowE es f i)) :: M) w3 := h3
    refine h3.ldI 0 rfl rfl ?_
    have hr3 := hrr w3 h3.drop.drop
    refine clr (c60 hr3 _ (by omega)) ⟨_, rfl, ?_⟩
    have eup : IntKind.wrap .u32 (e.rc.f2 + 1) = (f + ((i + 1 : Nat) : Int)) % 4294967296 := by rw [g2, wrap_u32_mod]; omega
    rw [eup]
    refine h3.drw fun w4 h4 => ⟨w4, Pres.refl _, ?_⟩
    have nope : fitB (pl es) ((f + (i : Int)) % 4294967296) ((f + ((i + 1 : Nat) : Int)) % 4294967296) = false → ∀ w', Hs W (pt b10 (.cells e.rc.c 36 (0, 0)) :: slP 36 15 a (i + 1) c (chV (rowE es f i)) :: M) w' → Kr (.slice none 0 0) w' := fun hno w' h' => hKr (no_wh hf hx hen hno) w' h'.drop.drop
    cases hy : look (pl es) ((f + ((i + 1 : Nat) : Int)) % 4294967296) with
    | none =>
      rw [(idx_look (t := (f + ((i + 1 : Nat) : Int)) % 4294967296)).2 hy]
      rw [br_dec]
      exact ⟨fun _ => nope (by unfold fitB; rw [hx, hy]) w4 h4, fun hge => absurd (show (-1 : Int) < 0 by decide) hge⟩
    | some y =>
      obtain ⟨j, e', hj, hje, hey, hfe⟩ := (idx_look (t := (f + ((i + 1 : Nat) : Int)) % 4294967296)).1 y hy
      have hfit : fitB (pl es) ((f + (i : Int)) % 4294967296) ((f + ((i + 1 : Nat) : Int)) % 4294967296) = fit2 x y := by unfold fitB; rw [hx, hy]
      have hh' : ∀ q, hr e'.rc q = y.has q := fun q => by rw [← hey]; rfl
      have g3' : e'.rc.f3 = y.r.f3 := by rw [← hey]; rfl
      have g4' : e'.rc.f4 = y.r.f4 := by rw [← hey]; rfl
      rw [hj]
      rw [br_dec]
      refine ⟨fun hlt => absurd hlt (by show ¬ ((j : Int) < 0); omega), fun _ => ?_⟩
      have hr4 := hrr w4 h4.drop.drop
      refine hr4.ld (ch_ix hr4.rd rfl hje fun ad ha => ?_)
      refine ldR35_of ha ?_
      refine cl (c65 _ _ _) ?_
      rintro _ w5 ⟨rfl, s5⟩
      refine ⟨_, rfl, Pres.of_Same s5, ?_⟩
      have h5 := h4.same s5
      rw [hh', br_iff]
      refine ⟨fun hb2 => nope (by rw [hfit]; unfold fit2; rw [hb2]; rfl) w5 h5, fun hb2 => ?_⟩
      have hr5 := hrr w5 h5.drop.drop
      refine hr5.ld (ch_ix hr5.rd rfl hje fun ad ha => ?_)
      refine ldI_c (ha 3 _ rfl) (h5.ldI 0 rfl rfl ?_)
      rw [g3, g3', br_iff]
      refine ⟨fun hb3 => nope (by rw [hfit]; unfold fit2; rw [show (x.r.f3 == y.r.f3) = false by simp at hb3 ⊢; exact fun h => hb3 h.symm]; simp) w5 h5, fun hb3 => ?_⟩
      refine hr5.ld (ch_ix hr5.rd rfl hje fun ad ha => ?_)
      refine ldI_c (ha 4 _ rfl) (h5.ldI 0 rfl rfl ?_)
      rw [g4, g4', br_iff]
      refine ⟨fun hb4 => nope (by rw [hfit]; unfold fit2; rw [show (x.r.f4 == y.r.f4) = false by simp at hb4 ⊢; exact fun h => hb4 h.symm]; simp) w5 h5, fun hb4 => ?_⟩
      refine hr5.ld (ch_ix hr5.rd rfl hje fun ad ha => ?_)
      refine ldR35_of ha ?_
      refine ldR35_of (s := e.rc) (h4.atL 0 rfl) ?_
      refine cl (c65 _ _ _) ?_
      rintro _ w6 ⟨rfl, s6⟩
      refine ⟨_, rfl, Pres.of_Same (s5.trans s6 fun _ _ x => x), ?_⟩
      have h6 := h5.same s6
      refine cl (c65 _ _ _) ?_
      rintro _ w7 ⟨rfl, s7⟩
      refine ⟨_, rfl, ?_⟩
      have h7 := h6.same s7
      rw [hh', hh, br_iff]
      refine ⟨fun hb5 => nope (by rw [hfit]; unfold fit2; rw [show (x.has 4 == y.has 4) = false by simp at hb5 ⊢; exact fun h => hb5 h.symm]; simp) w7 h7, fun hb5 => ?_⟩
      have hfits : fitB (pl es) ((f + (i : Int)) % 4294967296) ((f + ((i + 1 : Nat) : Int)) % 4294967296) = true := by
        rw [hfit]; unfold fit2
        simp at hb3 hb4 hb5
        rw [hb2, hen, hb3, hb4, hb5]
        simp
      have hfi : fitsN (pl es) f (i + 1) := fun q hq => by
        rcases Nat.lt_or_ge q i with h | h
        · exact hf q h
        · have : q = i := by omega
          subst this
          exact hfits
      have hrun : i + 1 + 1 ≤ (pl es).length := run_len (t := f) (by omega) fun q hq => by
        rcases Nat.lt_or_ge q (i + 1) with h | h
        · exact (fit_mem (hfi q h)).1
        · have : q = i + 1 := by omega
          subst this
          exact (fit_mem (hfi i (by omega))).2
      rw [List.length_map] at hrun
      unfold F64_1
      simp only [rdP_mk, rdC_mk, rdI_mk, nn_some, add_mk]
      have hr7 := hrr w7 h7.drop.drop
      refine hr7.ld (ch_ix hr7.rd (i := idxV (some j)) rfl hje fun ad ha => ?_)
      refine ldR35_of ha ?_
      unfold alc
      have h8 : Hs W (slP 36 15 a (i + 1) c (chV (rowE es f i)) :: M) w7 := h7.drop
      refine h8.push (ty := 45) E45 0 rfl (news := e'.rc.c) rfl (R35_one _) (by omega) (by omega) fun a' c' w8 h9 => ?_
      have h9 : Hs W (slP 36 15 a' (i + 1 + 1) c' (chV (rowE es f i) ++ e'.rc.l) :: M) w8 := h9
      have he'' : e' = ecOf es ((f + ((i + 1 : Nat) : Int)) % 4294967296) := by unfold ecOf; rw [hfe]; rfl
      rw [← chV_snoc, he'', ← rowE_snoc] at h9
      intro _g
      exact ih (i + 1) k w8 a' c' (by omega) hfi (by omega) h9 (by omega)
theorem c64 {f : Int} (hf0 : 0 ≤ f ∧ f < 4294967296) (hl : es.length ≤ 32769) (hrr : ∀ w', Hs W M w' → RR w' rb la lc es) (h : Hs W M w) : Calls Try.prog 64 #[.pointer (some ⟨rb, 0, none⟩), .int .u32 f] w (rt fun v w' =>
    (∃ n a c, Wh (pl es) (numsN f n) f n ∧ v = .slice a (n + 1) c ∧ Hs W (slP 36 15 a (n + 1) c (chV (rowE es f n)) :: M) w') ∨ ((∀ n, ¬ Wh (pl es) (numsN f n) f n) ∧ v = .slice none 0 0 ∧ Hs W M w')) := by
  refine F64_ok ?_
  unfold F64
  simp only [rdP_mk, rdI_mk, nn_some, add_mk]
  have hq := hrr w h
  refine clr (c60 hq f (by omega)) ⟨_, rfl, ?_⟩
  cases hx : look (pl es) f with
  | none =>
    rw [(idx_look (t := f)).2 hx]
    rw [br_dec]
    refine ⟨fun _ => .inr ⟨fun n hw => ?_, trivial, h⟩, fun hge => absurd (show (-1 : Int) < 0 by decide) hge⟩
    obtain ⟨y, hy, _⟩ := hw.bg
    rw [hx] at hy; cases hy
  | some x =>
    obtain ⟨j, e, hj, hje, hex, hfe⟩ := (idx_look (t := f)).1 x hx
    rw [hj]
    rw [br_dec]
    refine ⟨fun hlt => absurd hlt (by show ¬ ((j : Int) < 0); omega), fun _ => ?_⟩
    refine hq.ld (ch_ix hq.rd rfl hje fun ad ha => ?_)
    refine ldR35_of ha ?_
    refine cl (c65 _ _ _) ?_
    rintro _ w1 ⟨rfl, s1⟩
    refine ⟨_, rfl, ?_⟩
    have h1 := h.same s1
    have hh : hr e.rc 2 = x.has 2 := by rw [← hex]; rfl
    rw [hh, br_iff]
    refine ⟨fun hb => .inr ⟨fun n hw => ?_, trivial, h1⟩, fun hb => ?_⟩
    · obtain ⟨y, hy, hb2⟩ := hw.bg
      rw [hx] at hy; cases hy
      rw [hb2] at hb; cases hb
    unfold F64_3
    simp only [rdP_mk, rdI_mk, nn_some, add_mk]
    have hq1 := hrr w1 h1
    refine hq1.ld (ch_ix hq1.rd (i := idxV (some j)) rfl hje fun ad ha => ?_)
    refine ldR35_of ha ?_
    refine h1.alc fun b7 w2 h2 => ?_
    have h3 := pt_sl h2
    have hlen : 0 < es.length := by have := (List.getElem?_eq_some_iff.1 hje).1; omega
    have hr0 : rowE es f 0 = [e] := by
      unfold rowE
      rw [numsN_zero hf0]
      show [ecOf es f] = [e]
      unfold ecOf; rw [hfe]; rfl
    refine ⟨es.length + 1, c64_2 (f := f) hf0 hl hrr ⟨x, hx, by simpa using hb⟩ (fun n w' a c hw h' _g => ?_) (fun hno w' h' _g => ?_) es.length 0 _ w2 _ _ (by omega) (fun q hq => by omega) (by omega) (by rw [hr0]; show Hs W (slP 36 15 _ 1 1 (chV [e]) :: M) w2; unfold chV; simp only [List.flatMap_cons, List.flatMap_nil, List.append_nil]; exact h3) (by omega)⟩
    · simp only [rdC_mk]
      intro _
      exact Or.inl ⟨n, a, c, hw, by first | rfl | trivial, h'⟩
    · simp only [rdC_mk]
      intro _
      exact Or.inr ⟨hno, by first | rfl | trivial, h'⟩
end
end Go.Proofs.Ytaflmpbeonoilaa
