/-
  The document's table: a whole row is a message.
-/
import Derived.Test.YtaflmpbeonoilaaRmRc
namespace Go.Proofs.Ytaflmpbeonoilaa
open Go Go.Sh Go.RowKit
section
variable {W w : World} {L M Z : List HP} {rb lc : Nat} {la : Option Addr} {d : RD} {s : St} {es : List Ec} {Wl : List Int}
theorem c66_1 {b n rc : Nat} {ra : Option Addr} {f : Int} {m : Ms} {row : List Int} {Z : List HP} {K0 : Value → Value → Value → World → Prop} (hrow : row = numsN f n) (hh : ∀ t ∈ row, ∃ x, look (pl d.es) t = some x) (hnd : row.Nodup) (hrl : row.length ≤ 32769) (hel : d.es.length ≤ 32769) (hFl : s.F.length + row.length ≤ 4294967296)
    (hlen : (row.flatMap (bodyOf (pl d.es))).length ≤ 140737488355328)
    (hK : ∀ w' a c d1, d1.es = rem d.es row → d1.ms = d.ms → Hs W (pt b (.cells (R38.mk m.st m.ssn m.pr m.un a (row.flatMap (bodyOf (pl d.es))).length c).c 39 (0, 0)) :: slP 5 1 a (row.flatMap (bodyOf (pl d.es))).length c (inV .u8 (row.flatMap (bodyOf (pl d.es)))) :: (refL rb d1 (stJ s row) Wl ++ (slP 36 15 ra (n + 1) rc (chV (rowE d.es f n)) :: Z))) w' → K0 (.pointer (some ⟨rb, 0, none⟩)) (.int .u32 f) (.pointer (some ⟨b, 0, none⟩)) w') :
    ∀ (i j : Nat) (w1 : World) (k : Nat) (a : Option Addr) (c q : Nat) (D : List Int) (d1 : RD), j + i = row.length → D = (row.take j).flatMap (bodyOf (pl d.es)) → q = D.length → d1.es = rem d.es (row.take j) → d1.ms = d.ms →
      Hs W (pt b (.cells (R38.mk m.st m.ssn m.pr m.un a q c).c 39 (0, 0)) :: slP 5 1 a q c (inV .u8 D) :: (refL rb d1 (stJ s (row.take j)) Wl ++ (slP 36 15 ra (n + 1) rc (chV (rowE d.es f n)) :: Z))) w1 → i < k →
      F66_1 K0 k (.pointer (some ⟨rb, 0, none⟩)) (.int .u32 f) (.slice ra (n + 1) rc) (.pointer (some ⟨b, 0, none⟩)) (.int .i64 (j : Int)) w1 := by
  have hrn : row.length = n + 1 := by rw [hrow, numsN_length]
  intro i
  induction i with
  | zero =>
    intro j w1 k a c q D d1 hj hD hq he1 hm1 h hk
    obtain ⟨k, rfl⟩ : ∃ j, k = j + 1 := ⟨k - 1, by omega⟩
    show F66_1B _ _ _ _ _ _ _ _
    unfold F66_1B
    simp only [rdP_mk, rdA_mk, rdC_mk, rdI_mk]
    rw [br_dec]
    refine ⟨fun hlt => by exfalso; omega, fun _ => ?_⟩
    rw [List.take_of_length_le (by omega)] at hD he1 h
    subst hD hq
    exact hK w1 a c d1 he1 hm1 h
  | succ i ih =>
    intro j w1 k a c q D d1 hj hD hq he1 hm1 h hk
    obtain ⟨k, rfl⟩ : ∃ j, k = j + 1 := ⟨k - 1, by omega⟩
    show F66_1B _ _ _ _ _ _ _ _
    unfold F66_1B
    simp only [rdP_mk, rdA_mk, rdC_mk, rdI_mk, nn_some, add_mk]
    rw [br_dec]
    refine ⟨fun _ => ?_, fun hlt => by exfalso; omega⟩
    obtain ⟨t, ht⟩ : ∃ t, row[j]? = some t := ⟨row[j]'(by omega), by simp⟩
    have htm := List.mem_of_getElem? ht
    have htn : t = (f + (j : Int)) % 4294967296 := by
      have := numsN_get (f := f) (n := n) (i := j) (by omega)
      rw [← hrow, ht] at this
      exact Option.some.inj this
    have hnot : t ∉ row.take j := by
      intro hm
      obtain ⟨i', hi'⟩ := List.getElem?_of_mem hm
      rw [List.getElem?_take] at hi'
      split at hi'
      · rename_i hlt
        have := (List.getElem?_inj (i := i') (j := j) (by omega) hnd).1 (by rw [hi', ht])
        omega
      · cases hi'
    obtain ⟨x, hx⟩ := hh t htm
    obtain ⟨hex, hfe⟩ := ecOf_look hx
    obtain ⟨e, hee⟩ : ∃ e, e = ecOf d.es t := ⟨_, rfl⟩
    rw [← hee] at hex hfe
    have hrow_j : (rowE d.es f n)[j]? = some e := by rw [rowE_get d.es f (by omega), ← htn, hee]
    have hxt := (look_some hx).2
    have hget : e.rc.f2 = t := by rw [← hxt, ← hex]; rfl
    have hln := rowE_length d.es f n
    have hix : ∀ {w' : World} {K : Addr → Prop}, Rd w' ra (chV (rowE d.es f n)) → (∀ ad, At w' ad e.rc.l → K ad) → ixS 15 ra (n + 1) (j : Int) K := by
      intro w' K hr hk'
      have := ch_ix (K := K) hr (i := (j : Int)) rfl hrow_j hk'
      rw [hln] at this
      exact this
    refine h.drw fun w2 h2 => ?_
    refine h2.ldC 0 rfl rfl ?_
    refine hix (h2.rd 10 rfl) fun ad ha => ?_
    refine ldC_c (ha 13 _ rfl) ?_
    have hin : e ∈ d1.es := by
      rw [he1]
      unfold rem
      refine List.mem_filter.2 ⟨List.mem_of_find?_eq_some hfe, ?_⟩
      have : e.x.tsn = t := hget
      rw [this]
      simpa using hnot
    obtain ⟨p, hp⟩ := List.getElem?_of_mem hin
    have hown := h2.big_rd 8 rfl hp (e := 5) (z := 1) (a := e.a) (n := e.x.b.length) (c := e.c) (xs := inV .u8 e.x.b) rfl
    have hbe : bodyOf (pl d.es) t = e.x.b := by rw [look_body hx, hex]
    have hfl := flat_take_snoc (bodyOf (pl d.es)) ht
    rw [hbe] at hfl
    have hle : ((row.take (j + 1)).flatMap (bodyOf (pl d.es))).length ≤ (row.flatMap (bodyOf (pl d.es))).length := by
      have : row.flatMap (bodyOf (pl d.es)) = (row.take (j + 1)).flatMap (bodyOf (pl d.es)) ++ (row.drop (j + 1)).flatMap (bodyOf (pl d.es)) := by
        rw [← List.flatMap_append, List.take_append_drop]
      rw [this, List.length_append]; omega
    rw [hfl, List.length_append, ← hD, ← hq] at hle
    refine h2.appendA E22 1 rfl (news := inV .u8 e.x.b) (m := e.x.b.length) (by rw [inV_length]; omega) hown.rd (own_nilc hown) (inV_one _ _) (by omega) (by omega) fun a' c' w3 h3 _ => ?_
    rw [← inV_append] at h3
    refine h3.stc 0 rfl (by simp [R38.c]) fun w4 h4 => ?_
    have h4 : Hs W (pt b (.cells (R38.mk m.st m.ssn m.pr m.un a' (q + e.x.b.length) c').c 39 (0, 0)) :: slP 5 1 a' (q + e.x.b.length) c' (inV .u8 (D ++ e.x.b)) :: (refL rb d1 (stJ s (row.take j)) Wl ++ (slP 36 15 ra (n + 1) rc (chV (rowE d.es f n)) :: Z))) w4 := h4
    refine h4.drw fun w5 h5 => ?_
    refine rl5 h5 2 rfl ?_
    refine hix (h5.rd 10 rfl) fun ad ha => ?_
    refine ldI_c (ha 2 _ rfl) ?_
    rw [hget]
    unfold alc
    refine ⟨Pres.alloc _ _, ?_⟩
    have hFj : (stJ s (row.take j)).F.length = s.F.length + j := by
      show (s.F ++ row.take j).length = _
      rw [List.length_append, List.length_take]; omega
    refine h5.push (ty := 33) E33 6 rfl (news := #[.int .u32 t]) rfl (by simp [Value.oneCell']) (by rw [hFj]; omega) (by rw [hFj]; omega) fun fa' fc' w6 h6 => ?_
    refine h6.stc 2 rfl (by simp [refC, R85.c]) fun w7 h7 => ?_
    have etk : row.take (j + 1) = row.take j ++ [t] := by rw [List.take_add_one, ht]; rfl
    have eF : (stJ s (row.take (j + 1))).F = (stJ s (row.take j)).F ++ [t] := by
      show s.F ++ row.take (j + 1) = (s.F ++ row.take j) ++ [t]
      rw [etk, List.append_assoc]
    have h7' : Hs W (pt b (.cells (R38.mk m.st m.ssn m.pr m.un a' (q + e.x.b.length) c').c 39 (0, 0)) :: slP 5 1 a' (q + e.x.b.length) c' (inV .u8 (D ++ e.x.b)) :: (refL rb { d1 with fa := fa', fc := fc' } (stJ s (row.take (j + 1))) Wl ++ (slP 36 15 ra (n + 1) rc (chV (rowE d.es f n)) :: Z))) w7 := by
      unfold refL refC
      rw [eF, inV_snoc, List.length_append, List.length_singleton]
      exact h7
    clear h7 h6
    refine h7'.drw fun w8 h8 => ?_
    refine rl2 h8 2 rfl ?_
    refine hix (h8.rd 10 rfl) fun ad ha => ?_
    refine ldI_c (ha 2 _ rfl) ?_
    rw [hget]
    have hl1 : d1.es.length ≤ 32769 := by
      rw [he1]; unfold rem
      exact Nat.le_trans (List.length_filter_le _ _) hel
    refine cl (c67 (t := t) hl1 (fun w' h' => h'.rd 3 rfl) h8) ?_
    rintro _ w9 ⟨la', lc', rfl, h9⟩
    refine ⟨_, _, _, rfl, ?_⟩
    refine h9.stc 3 rfl (by simp [refC, R85.c]) fun w10 h10 => ?_
    have h11 := h10.erase 4
    have h12 := h11.perm (List.perm_middle (l₁ := [_, _, _])).symm
    have efi : (d1.es.filter fun e => e.x.tsn != t) = rem d.es (row.take (j + 1)) := by rw [he1, rem_snoc, etk]
    have h13 := big_filter (fun e : Ec => e.x.tsn != t) h12 8 rfl
    have e1 : IntKind.wrap .i64 ((j : Int) + 1) = ((j + 1 : Nat) : Int) := by rw [wrap_i64 (by omega) (by omega)]; omega
    rw [e1]
    refine ih (j + 1) w10 k a' c' (q + e.x.b.length) (D ++ e.x.b) { d1 with fa := fa', fc := fc', la := la', lc := lc', es := d1.es.filter fun e => e.x.tsn != t } (by omega) (by rw [hfl, hD]) (by rw [List.length_append, hq]) efi hm1 ?_ (by omega)
    exact h13
theorem c66_2 {b n rc : Nat} {ra : Option Addr} {f : Int} {m : Ms} {row : List Int} {Z : List HP} {Kn : World → Prop} (hrow : row = numsN f n) (hh : ∀ t ∈ row, ∃ x, look (pl d.es) t = some x) (hnd : row.Nodup) (hrl : row.length ≤ 32769) (hel : d.es.length ≤ 32769) (hFl : s.F.length + row.length ≤ 4294967296) (hWl : Wl.length ≤ 4294967296)
    (hlen : (row.flatMap (bodyOf (pl d.es))).length ≤ 140737488355328) (hms : d.ms.length ≤ 2000000000) (hD : m.d = row.flatMap (bodyOf (pl d.es)))
    (h : Hs W (pt b (.cells (R38.mk m.st m.ssn m.pr m.un none 0 0).c 39 (0, 0)) :: (refL rb d s Wl ++ (slP 36 15 ra (n + 1) rc (chV (rowE d.es f n)) :: Z))) w)
    (hK : ∀ w' a c d1, d1.es = rem d.es row → d1.ms = d.ms ++ [⟨a, c, m⟩] → Hs W (refL rb d1 (stJ s row) (Wl.filter (· != f)) ++ (slP 36 15 ra (n + 1) rc (chV (rowE d.es f n)) :: Z)) w' → Kn w') :
    F66_2 Kn (.pointer (some ⟨rb, 0, none⟩)) (.int .u32 f) (.slice ra (n + 1) rc) (.pointer (some ⟨b, 0, none⟩)) w := by
  unfold F66_2
  simp only [rdP_mk, rdA_mk, rdC_mk, rdI_mk]
  have h1 := (h.nil 5 1).perm (List.Perm.swap _ _ _)
  refine ⟨row.length + 1, c66_1 (W := W) (s := s) (Wl := Wl) (Z := Z) (m := m) hrow hh hnd hrl hel hFl hlen (fun w5 a c d1 he1 hm1 h5 _g => ?_) row.length 0 w _ none 0 0 [] d (by omega) rfl rfl (by rw [List.take_zero, rem_nil]) rfl ?_ (by omega)⟩
  · simp only [rdP_mk, rdA_mk, rdI_mk, nn_some, add_mk]
    refine h5.drw fun w9 h9 => ?_
    refine rl3 h9 2 rfl ?_
    rw [← hD] at h9
    refine ldR38_of (s := m.rc a c) (h9.atL 0 rfl) ?_
    unfold alc
    refine ⟨Pres.alloc _ _, ?_⟩
    refine h9.push (ty := 49) E49 4 rfl (news := (m.rc a c).c) rfl (R38_one _) (by rw [hm1]; omega) (by rw [hm1]; omega) fun ma' mc' w10 h10 => ?_
    refine h10.stc 2 rfl (by simp [refC, R85.c]) fun w11 h11 => ?_
    have h12 : Hs W (datP ⟨a, c, m⟩ :: (_ :: _)) w11 := h11.drop
    have h13 := h12.big_in 7 (l := d1.ms) rfl
    have h14 : Hs W (refL rb { d1 with ma := ma', mc := mc', ms := d1.ms ++ [⟨a, c, m⟩] } (stJ s row) Wl ++ (slP 36 15 ra (n + 1) rc (chV (rowE d.es f n)) :: Z)) w11 := by
      unfold refL refC
      rw [msV_snoc, List.length_append, List.length_singleton]
      exact h13
    clear h13 h12 h11 h10
    refine rl6 h14 0 rfl ?_
    refine cl (c89 (t := f) hWl (fun w' h' => h'.rd 5 rfl) h14) ?_
    rintro _ w15 ⟨wa', wc', rfl, h15⟩
    refine ⟨_, _, _, rfl, ?_⟩
    refine h15.stc 1 rfl (by simp [refC, R85.c]) fun w16 h16 => ?_
    have h17 := h16.erase 6
    have h18 := h17.perm (List.perm_middle (l₁ := [_, _, _, _, _])).symm
    exact hK w16 a c { d1 with ma := ma', mc := mc', ms := d1.ms ++ [⟨a, c, m⟩], wa := wa', wc := wc' } he1 (by show d1.ms ++ _ = _; rw [hm1]) h18
  · rw [List.take_zero]
    have e2 : stJ s [] = s := by show { s with F := s.F ++ [] } = s; rw [List.append_nil]
    rw [e2]
    exact h1
/-- ready -/
theorem c66 {f : Int} {n : Nat} (hi : RIs d s) (hw : Wh s.L (numsN f n) f n) (hL : s.L.length ≤ 32769) (hFl : s.F.length ≤ 65536) (hWl : Wl.length ≤ 65536) (hms : s.M.length ≤ 2000000000) (hlen : ((numsN f n).flatMap (bodyOf s.L)).length ≤ 140737488355328)
    (h : Hs W (refL rb d s Wl ++ Z) w) :
    Calls Try.prog 66 #[.pointer (some ⟨rb, 0, none⟩), .int .u32 f] w (rt fun v w' => v = .tuple #[] ∧ ∃ d', RIs d' (tellS s (numsN f n)) ∧ Hs W (refL rb d' (tellS s (numsN f n)) (Wl.filter (· != f)) ++ Z) w') := by
  obtain ⟨row, hrow⟩ : ∃ row, row = numsN f n := ⟨_, rfl⟩
  have hpl : pl d.es = s.L := hi.L
  have hel : d.es.length ≤ 32769 := by
    have : d.es.length = s.L.length := by rw [← hi.L, List.length_map]
    omega
  have hdm : d.ms.length = s.M.length := by rw [← hi.M, List.length_map]
  have hmem : ∀ t ∈ row, ∃ x, look s.L t = some x := by
    intro t ht
    rw [hrow, mem_numsN] at ht
    obtain ⟨i, hin, rfl⟩ := ht
    rcases Nat.lt_or_ge i n with hlt | hge
    · obtain ⟨x, _, hx, _⟩ := fit_held (hw.fits i hlt)
      exact ⟨x, hx⟩
    · have : i = n := by omega
      subst this
      obtain ⟨x, hx, _⟩ := hw.en
      exact ⟨x, hx⟩
  have hrun : n + 1 ≤ s.L.length := run_len (t := f) (by have := hw.few; omega) fun i hin => look_isSome.1 (by
    obtain ⟨x, hx⟩ := hmem ((f + (i : Int)) % 4294967296) (by rw [hrow, mem_numsN]; exact ⟨i, hin, rfl⟩)
    rw [hx]; rfl)
  have hrl : row.length = n + 1 := by rw [hrow, numsN_length]
  have hnd : row.Nodup := by rw [hrow]; exact numsN_nodup (by omega)
  refine F66_ok ?_
  unfold F66
  simp only [rdP_mk, rdI_mk]
  refine cl (c64 (f := f) hw.rng hel (fun w' h' => ref_rr h') h) ?_
  rintro _ w1 (⟨n', a, c, hw', rfl, h1⟩ | ⟨hno, _⟩)
  case inr => exact absurd (by rw [hpl]; exact hw) (hno n)
  rw [hpl] at hw'
  obtain ⟨_, hnn⟩ := wh_one hw hw' (t := f) (by rw [mem_numsN]; exact ⟨0, Nat.zero_le _, by have := hw.rng; omega⟩) (by rw [mem_numsN]; exact ⟨0, Nat.zero_le _, by have := hw.rng; omega⟩)
  subst hnn
  refine ⟨_, _, _, rfl, ?_⟩
  obtain ⟨x, hx, _⟩ := hw.bg
  obtain ⟨hex, hfe⟩ := ecOf_look (es := d.es) (t := f) (x := x) (by rw [hpl]; exact hx)
  obtain ⟨e, hee⟩ : ∃ e, e = ecOf d.es f := ⟨_, rfl⟩
  rw [← hee] at hex hfe
  have h0 : (rowE d.es f n)[0]? = some e := by
    rw [rowE_get d.es f (Nat.zero_le n), hee]
    have : (f + ((0 : Nat) : Int)) % 4294967296 = f := by have := hw.rng; omega
    rw [this]
  have hln := rowE_length d.es f n
  refine h1.drw fun w2 h2 => ⟨w2, Pres.refl _, ?_⟩
  have hix : ∀ {w' : World} {K : Addr → Prop}, Rd w' a (chV (rowE d.es f n)) → (∀ ad, At w' ad e.rc.l → K ad) → ixS 15 a (n + 1) (0 : Int) K := by
    intro w' K hr hk'
    have := ch_ix (K := K) hr (i := (0 : Int)) (j := 0) rfl h0 hk'
    rw [hln] at this
    exact this
  have hrd2 := h2.rd 0 rfl
  refine hix hrd2 fun a1 g1 => ldI_c (g1 3 _ rfl) ?_
  refine hix hrd2 fun a1 g1 => ldI_c (g1 4 _ rfl) ?_
  refine hix hrd2 fun a1 g1 => ldI_c (g1 5 _ rfl) ?_
  refine hix hrd2 fun a1 g1 => ldR35_of g1 ?_
  have hr4 : hr e.rc 4 = x.has 4 := by rw [← hex]; rfl
  have h2b : Hs W (refL rb d s Wl ++ (slP 36 15 a (n + 1) c (chV (rowE d.es f n)) :: Z)) w2 := h2.behind (L := refL rb d s Wl)
  have hlook : (look s.L (row.headD 0)).getD ⟨R35.z, []⟩ = x := by
    rw [hrow, numsN_head hw.rng, hx]; rfl
  have hDl : (row.flatMap (bodyOf (pl d.es))).length ≤ 140737488355328 := by rw [hrow, hpl]; exact hlen
  have fin : ∀ {b : Nat} {w5 : World} {Kn : World → Prop}, (∀ w', (∃ d', RIs d' (tellS s row) ∧ Hs W (refL rb d' (tellS s row) (Wl.filter (· != f)) ++ Z) w') → Kn w') → Hs W (pt b (.cells (R38.mk e.rc.f3 e.rc.f4 e.rc.f5 (hr e.rc 4) none 0 0).c 39 (0, 0)) :: (refL rb d s Wl ++ (slP 36 15 a (n + 1) c (chV (rowE d.es f n)) :: Z))) w5 →
      F66_3 Kn (.pointer (some ⟨rb, 0, none⟩)) (.int .u32 f) (.slice a (n + 1) c) (.pointer (some ⟨b, 0, none⟩)) w5 := by
    intro b w5 Kn hK h5
    have f3 : e.rc.f3 = x.r.f3 := by rw [← hex]; rfl
    have f4 : e.rc.f4 = x.r.f4 := by rw [← hex]; rfl
    have f5 : e.rc.f5 = x.r.f5 := by rw [← hex]; rfl
    rw [f3, f4, f5, hr4] at h5
    unfold F66_3
    simp only [rdP_mk, rdA_mk, rdC_mk, rdI_mk, add_mk]
    refine h5.ldB 0 rfl rfl ?_
    have last : ∀ {w6 : World}, Hs W (pt b (.cells (R38.mk (msgOf x (row.flatMap (bodyOf (pl d.es)))).st (msgOf x (row.flatMap (bodyOf (pl d.es)))).ssn (msgOf x (row.flatMap (bodyOf (pl d.es)))).pr (msgOf x (row.flatMap (bodyOf (pl d.es)))).un none 0 0).c 39 (0, 0)) :: (refL rb d s Wl ++ (slP 36 15 a (n + 1) c (chV (rowE d.es f n)) :: Z))) w6 →
        F66_2 (fun w10 => ∀ _g : Tm, Kn w10) (.pointer (some ⟨rb, 0, none⟩)) (.int .u32 f) (.slice a (n + 1) c) (.pointer (some ⟨b, 0, none⟩)) w6 := by
      intro w6 h6
      refine c66_2 (row := row) hrow (by rw [hpl]; exact hmem) hnd (by omega) hel (by omega) (by omega) hDl (by omega) rfl h6 fun w' a' c' d1 he1 hm1 h' _g => hK w' ⟨d1, ⟨?_, ?_⟩, ?_⟩
      · rw [he1]
        show (rem d.es row).map Ec.x = s.L.filter _
        rw [← hi.L, List.filter_map]
        rfl
      · rw [hm1]
        show (d.ms ++ [_]).map Em.m = s.M ++ [_]
        rw [List.map_append, hi.M, hlook, ← hi.L]
        rfl
      · exact (Hs.ahead h').drop
    cases hu : x.has 4 with
    | true =>
      rw [br_true]
      refine h5.stc 0 rfl (by simp [R38.c]) fun w6 h6 => last ?_
      have em : msgOf x (row.flatMap (bodyOf (pl d.es))) = ⟨x.r.f3, 0, x.r.f5, true, row.flatMap (bodyOf (pl d.es))⟩ := by unfold msgOf; rw [hu]; rfl
      rw [em]
      rw [hu] at h6
      exact h6
    | false =>
      rw [br_false]
      refine last ?_
      have em : msgOf x (row.flatMap (bodyOf (pl d.es))) = ⟨x.r.f3, x.r.f4, x.r.f5, false, row.flatMap (bodyOf (pl d.es))⟩ := by unfold msgOf; rw [hu]; rfl
      rw [em]
      rw [hu] at h5
      exact h5
  rw [← hrow]
  constructor
  · refine cl (c65 e.rc 4 w2) ?_
    rintro _ w18 ⟨rfl, s18⟩
    have p18 := Pres.of_Same s18
    refine ⟨_, rfl, p18, ?_⟩
    refine alcP (h2b.same s18) fun b21 w22 p22 h22 => ⟨p18.trans p22, ?_⟩
    refine h22.stcL 0 rfl rfl fun w23 h23 => ?_
    exact fin (fun w' hw _g => ⟨by first | rfl | trivial, hw⟩) h23
  · refine alcP h2b fun b27 w28 p28 h28 => ⟨p28, ?_⟩
    refine cl (c65 e.rc 4 w28) ?_
    rintro _ w29 ⟨rfl, s29⟩
    refine ⟨_, rfl, p28.trans (Pres.of_Same s29), ?_⟩
    refine (h28.same s29).stcL 0 rfl rfl fun w32 h32 => ?_
    exact fin (fun w' hw _g => ⟨by first | rfl | trivial, hw⟩) h32
end
end Go.Proofs.Ytaflmpbeonoilaa
