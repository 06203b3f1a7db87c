/-
  A chunk is given up.
-/
import Derived.Test.YtaflmpbeonoilaaRmY
namespace Go.Proofs.Ytaflmpbeonoilaa
open Go Go.Sh Go.RowKit
section
variable {W w : World} {L M Z : List HP} {tb mc mf : Nat} {hd : Int} {d : TD} {s : St} {es : List Ec} {F : List Int} {c : Ch}
theorem rowV_set (rs : List Er) (j : Nat) (e : Er) : (rowV rs).set j (.slice e.a e.l.length e.c) = rowV (rs.set j e) := by simp [rowV, List.map_set]
theorem c46 {a : Option Addr} {c : Nat} {rs : List Er} {fv : Value} {p : Er → Bool} (h : Hs W (slP 33 1 a rs.length c (rowV rs) :: M) w) (hl : rs.length ≤ 140737488355328)
    (hp : ∀ e ∈ rs, ∀ (X : List Value) (w' : World), Hs W (slP 33 1 a rs.length c X :: M) w' → callV Try.prog fv #[.slice e.a e.l.length e.c] w' (.one (.one .bool)) fun r w2 => r = .bool (p e) ∧ Same w' w2) :
    Calls Try.prog 46 #[.slice a rs.length c, fv] w (rt fun v w' => v = .slice a (rs.filter fun e => !p e).length c ∧ Hs W (slP 33 1 a (rs.filter fun e => !p e).length c (rowV (rs.filter fun e => !p e)) :: M) w') := by
  refine F46_ok ?_
  unfold F46
  simp only [rdC_mk]
  refine cl (c52 (p := p) (h.rd 0 rfl) hl fun e he w' hs => hp e he _ w' (h.same hs)) ?_
  rintro _ w1 ⟨rfl, s1⟩
  refine ⟨_, rfl, ?_⟩
  have h1 := h.same s1
  cases hf : rs.findIdx? p with
  | none =>
    have hall := List.findIdx?_eq_none_iff.1 hf
    have e0 : (rs.filter fun e => !p e) = rs := List.filter_eq_self.2 fun e he => by rw [hall e he]; rfl
    have e1 : (idxV none == (-1 : Int)) = true := rfl
    rw [e1, br_true, e0]
    exact ⟨rfl, h1⟩
  | some i0 =>
    obtain ⟨hi0, hpi, hbef⟩ := List.findIdx?_eq_some_iff_getElem.1 hf
    have e1 : (idxV (some i0) == (-1 : Int)) = false := by rw [beq_eq_false_iff_ne]; show (i0 : Int) ≠ -1; omega
    rw [e1, br_false]
    obtain ⟨ad, rfl⟩ := (h1.rd 0 rfl).some (by rw [rowV_length]; omega)
    have loop : ∀ (K0 : Value → Value → World → Prop), (∀ (w' : World) (Y : List Er) (wi : Nat), Y.length = rs.length → Y.take wi = rs.filter (fun e => !p e) → wi < rs.length → Hs W (slP 33 1 (some ad) rs.length c (rowV Y) :: M) w' → K0 (.slice (some ad) rs.length c) (.int .i64 (wi : Int)) w') →
        ∀ (m j wi k : Nat) (Y : List Er) (w' : World), j + m = rs.length → Y.length = rs.length → wi < j → Y.take wi = (rs.take j).filter (fun e => !p e) → Y.drop j = rs.drop j → Hs W (slP 33 1 (some ad) rs.length c (rowV Y) :: M) w' → m < k →
        F46_1 K0 k (.slice (some ad) rs.length c) fv (.int .i64 (wi : Int)) (.int .i64 (j : Int)) w' := by
      intro K0 hK0 m
      induction m with
      | zero =>
        intro j wi k Y w' hj hY hwi ht hdr hh hk
        obtain ⟨k, rfl⟩ : ∃ j, k = j + 1 := ⟨k - 1, by omega⟩
        show F46_1B _ _ _ _ _ _ _
        unfold F46_1B
        simp only [rdC_mk, rdI_mk, br_dec]
        refine ⟨fun hlt => by exfalso; omega, fun _ => ?_⟩
        rw [show rs.take j = rs from List.take_of_length_le (by omega)] at ht
        exact hK0 w' Y wi hY ht (by omega) hh
      | succ m ih =>
        intro j wi k Y w' hj hY hwi ht hdr hh hk
        obtain ⟨k, rfl⟩ : ∃ j, k = j + 1 := ⟨k - 1, by omega⟩
        show F46_1B _ _ _ _ _ _ _
        unfold F46_1B
        simp only [rdC_mk, rdI_mk, br_dec]
        refine ⟨fun _ => ?_, fun hlt => by exfalso; omega⟩
        obtain ⟨e, he⟩ : ∃ e, rs[j]? = some e := ⟨rs[j]'(by omega), by simp⟩
        have hYj : Y[j]? = some e := by
          have := congrArg (·[0]?) hdr
          simp only [List.getElem?_drop, Nat.add_zero] at this
          rw [this]; exact he
        refine ixS_to rfl (by omega) ?_
        rw [Nat.mul_one]
        refine ldC_c ((hh.rd 0 rfl).at (rowV_at hYj)) (callV_mono ?_ (hp e (List.mem_of_getElem? he) _ w' hh))
        rintro _ w2 ⟨rfl, s2⟩
        refine ⟨_, rfl, ?_⟩
        have h2 := hh.same s2
        have e3 : IntKind.wrap .i64 ((j : Int) + 1) = ((j + 1 : Nat) : Int) := by rw [wrap_i64 (by omega) (by omega)]; omega
        have e4 : IntKind.wrap .i64 ((wi : Int) + 1) = ((wi + 1 : Nat) : Int) := by rw [wrap_i64 (by omega) (by omega)]; omega
        have etk : rs.take (j + 1) = rs.take j ++ [e] := by rw [List.take_add_one, he]; rfl
        rw [e3, br_iff]
        refine ⟨fun hb => ?_, fun hb => ?_⟩
        · refine ixS_to rfl (by omega) ?_
          rw [Nat.mul_one]
          refine h2.put 0 rfl (by rw [rowV_length]; omega) fun w3 h3 => ?_
          have h3 : Hs W (slP 33 1 (some ad) rs.length c ((rowV Y).set wi (.slice e.a e.l.length e.c)) :: M) w3 := h3
          rw [rowV_set] at h3
          rw [e4]
          refine ih (j + 1) (wi + 1) k (Y.set wi e) w3 (by omega) (by rw [List.length_set]; exact hY) (by omega) ?_ ?_ h3 (by omega)
          · rw [etk, List.filter_append, ← ht, List.take_add_one, List.getElem?_set_self (by omega), List.take_set_of_le (Nat.le_refl _)]
            simp [hb]
          · rw [List.drop_set_of_lt (by omega)]
            have := congrArg (List.drop 1) hdr
            rw [List.drop_drop, List.drop_drop] at this
            exact this
        · refine ih (j + 1) wi k Y w2 (by omega) hY (by omega) ?_ ?_ h2 (by omega)
          · rw [etk, List.filter_append, ← ht]
            simp at hb
            simp [hb]
          · have := congrArg (List.drop 1) hdr
            rw [List.drop_drop, List.drop_drop] at this
            exact this
    have e3 : IntKind.wrap .i64 (idxV (some i0) + 1) = ((i0 + 1 : Nat) : Int) := by
      show IntKind.wrap .i64 ((i0 : Int) + 1) = _
      rw [wrap_i64 (by omega) (by omega)]; omega
    rw [e3]
    refine ⟨rs.length + 1, loop _ (fun w' Y wi hY ht hwi hh => ?_) (rs.length - (i0 + 1)) (i0 + 1) i0 _ rs w1 (by omega) rfl (by omega) ?_ rfl h1 (by omega)⟩
    · intro _g
      simp only [rdC_mk, rdI_mk]
      have ho := hh.own 0 rfl
      have hle := ho.le
      have hlen : (rs.filter fun e => !p e).length = wi := by rw [← ht, List.length_take]; omega
      refine slS_lo (by omega) ?_
      rw [if_neg (by omega)]
      have hcut := ho.cut (n := wi) (by omega)
      rw [Nat.mul_one, rowV_take] at hcut
      obtain ⟨w3, hr3, o3, f3⟩ := clear_own (ty := 0) (m := rs.length - wi) (d := c - wi) E68 (by simp [Value.cells, Value.oneCell']) hcut (by omega)
      refine ⟨w3, hr3, slS_hi (by omega) ?_⟩
      rw [hlen]
      refine ⟨rfl, ?_⟩
      have := hh.slice 0 rfl o3 f3 fun k hk => .inl hk
      rw [ht] at this
      exact this
    · have hb : (rs.take i0).filter (fun e => !p e) = rs.take i0 := List.filter_eq_self.2 fun e he => by
        obtain ⟨q, hq, rfl⟩ := List.mem_take_iff_getElem.1 he
        have := hbef q (by omega)
        simp at this
        rw [this]; rfl
      have etk : rs.take (i0 + 1) = rs.take i0 ++ [rs[i0]] := by rw [List.take_add_one, List.getElem?_eq_getElem hi0]; rfl
      rw [etk, List.filter_append, hb]
      simp [hpi]
def dropS (s : St) (t : Int) : St := { s with L := s.L.filter fun y => y.tsn != t, wh := s.wh.filter fun r => !r.contains t }
theorem c22_no {t : Int} (hi : Is d s) (hx : look s.L t = none) (h : Hs W (tabL tb hd d s ++ Z) w) :
    Calls Try.prog 22 #[.pointer (some ⟨tb, 0, none⟩), .int .u32 t] w (rt fun v w' => v = .tuple #[.bool false, .int .i64 0] ∧ Hs W (tabL tb hd d s ++ Z) w') := by
  refine F22_ok ?_
  unfold F22
  simp only [rdP_mk, rdI_mk]
  refine h.alc fun b3 w4 h4 => ?_
  refine clr (c24t h4.drop) ⟨_, rfl, ?_⟩
  simp only [Bool.not_true, br_false, nn_some, add_mk]
  refine h4.drw fun w5 h5 => ?_
  refine h5.ldM 1 rfl rfl (h5.ldI 0 rfl rfl ?_)
  obtain ⟨s1, g1, _⟩ := (tab_rt h5.drop).look t
  refine exR35_of s1 ⟨_, g1 true, ?_⟩
  refine alcP h5 fun b14 w6 p6 h6 => ⟨p6, ?_⟩
  refine h6.stcL 0 rfl rfl fun w7 h7 => ?_
  rw [show look (pl d.es) t = _ from hi.L ▸ hx]
  simp only [Option.isSome_none, Bool.not_false, br_true]
  exact ⟨by first | rfl | trivial, h7.drop.drop⟩
theorem c22_ok {t : Int} {x : Ch} (hi : Is d s) (hx : look s.L t = some x) (hb : 0 ≤ hd - x.b.length ∧ hd ≤ 4294967296) (hrn : d.rs.length ≤ 4294967296) (hrl : ∀ e ∈ d.rs, e.l.length ≤ 4294967296) (h : Hs W (tabL tb hd d s ++ Z) w) :
    Calls Try.prog 22 #[.pointer (some ⟨tb, 0, none⟩), .int .u32 t] w (rt fun v w' => v = .tuple #[.bool true, .int .i64 0] ∧ ∃ d', Is d' (dropS s t) ∧ Hs W (tabL tb (hd - x.b.length) d' (dropS s t) ++ Z) w') := by
  refine F22_ok ?_
  unfold F22
  simp only [rdP_mk, rdI_mk]
  refine h.alc fun b3 w4 h4 => ?_
  refine clr (c24t h4.drop) ⟨_, rfl, ?_⟩
  simp only [Bool.not_true, br_false, nn_some, add_mk]
  refine h4.drw fun w5 h5 => ?_
  refine h5.ldM 1 rfl rfl (h5.ldI 0 rfl rfl ?_)
  obtain ⟨s1, g1, g2⟩ := (tab_rt h5.drop).look t
  refine exR35_of s1 ⟨_, g1 true, ?_⟩
  refine alcP h5 fun b14 w6 p6 h6 => ⟨p6, ?_⟩
  refine h6.stcL 0 rfl rfl fun w7 h7 => ?_
  rw [show look (pl d.es) t = _ from hi.L ▸ hx]
  simp only [Option.isSome_some, Bool.not_true, br_false]
  obtain ⟨e, _, hex, hse⟩ := g2 x (by show look (d.es.map Ec.x) t = _; rw [hi.L]; exact hx)
  subst hse
  have h7 : Hs W (pt b14 (.cells e.rc.c 36 (0, 0)) :: pt b3 (.cells #[.int .u32 t] 30 (0, 0)) :: (tabL tb hd d s ++ Z)) w7 := h7
  refine h7.ldC 2 rfl rfl ?_
  have h8 := h7.focus (i := 6) rfl
  refine cl (c46 (p := fun e => e.l.contains t) h8 (by omega) fun e' he' X w' hh => ?_) ?_
  · refine callV_of rfl (call_of (c47 (t := t) (b3 := b3) ?_ ?_ ?_) ?_)
    · obtain ⟨k, hk⟩ := List.getElem?_of_mem he'
      exact (hh.big_rd 9 rfl hk rfl).rd
    · exact Nat.le_trans (hrl e' he') (by omega)
    · exact hh.at 2 rfl
    · rintro _ w'' ⟨v, rfl, rfl, rfl⟩
      exact ⟨_, rfl, rfl, Fr.refl _⟩
  rintro _ w9 ⟨rfl, h9⟩
  refine ⟨_, _, _, rfl, ?_⟩
  have h10 := h9.unfocus (i := 6) (by simp [tabL])
  have h10 : Hs W (pt b14 (.cells e.rc.c 36 (0, 0)) :: pt b3 (.cells #[.int .u32 t] 30 (0, 0)) :: ([pt tb (.cells (tabC d hd s) 70 (0, 0)), mapV .u32 d.mc (cMap d.es), mapV .u32 d.mf (fMap s.F), slP 31 1 d.na s.nx.length d.nc (inV .u16 s.nx),
    slP 33 1 d.wa (d.rs.filter fun e => !e.l.contains t).length d.wc (rowV (d.rs.filter fun e => !e.l.contains t)), slO 39 5 d.ra d.ms.length d.rc (msV d.ms), bigS (d.es.map bodyP), bigS (d.rs.map rowP), bigS (d.ms.map datP)] ++ Z)) w9 := h10
  refine h10.stc 2 rfl (by simp [tabC, R69.c]) fun w11 h11 => ?_
  refine h11.drw fun w12 h12 => ?_
  refine h12.ldM 2 rfl rfl (h12.ldI 1 rfl rfl ?_)
  obtain ⟨o13, hr13, hm13⟩ := delete_val (P := Try.prog) (ats := #[64, 30]) (ty := 0) rfl u64 u30 (k := t) (h12.mapv 3 rfl)
  refine ⟨_, hr13, ?_⟩
  have h13 := h12.mapv_turn (i := 3) rfl ((Fr.refl w12).sb (fun _ => rfl)) hm13
  rw [cMap_del] at h13
  have h14 := big_filter (fun e : Ec => e.x.tsn != t) h13 8 rfl
  have h15 := big_filter (fun e : Er => !e.l.contains t) h14 9 rfl
  refine h15.drw fun w16 h16 => ?_
  refine h16.ldI 2 rfl rfl (h16.ldC 0 rfl rfl ?_)
  refine h16.stc 2 rfl (by simp [tabC, R69.c]) fun w17 h17 => ?_
  have hsub : IntKind.wrap .i64 (hd - (e.x.b.length : Int)) = hd - (e.x.b.length : Int) := wrap_i64 (by rw [hex]; omega) (by rw [hex]; omega)
  refine ⟨by first | rfl | trivial, { d with es := d.es.filter (fun e => e.x.tsn != t), rs := d.rs.filter (fun e => !e.l.contains t) }, ⟨?_, ?_, hi.M⟩, ?_⟩
  · show (d.es.filter _).map Ec.x = s.L.filter _
    rw [← hi.L, List.filter_map]
    rfl
  · show (d.rs.filter _).map Er.l = s.wh.filter _
    rw [← hi.wh, List.filter_map]
    rfl
  · rw [← hex, ← hsub]
    exact h17.drop.drop
end
end Go.Proofs.Ytaflmpbeonoilaa
