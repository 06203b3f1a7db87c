/-
  Turns: the walk.
-/
import Derived.Test.YtaflmpbeonoilaaRmP
namespace Go.Proofs.Ytaflmpbeonoilaa
open Go Go.Sh
section
variable {W w : World} {L M Z : List HP} {tb mc mf : Nat} {hd : Int} {d : TD} {s : St} {es : List Ec} {F : List Int}
theorem c53 {b3 b5 : Nat} {st : Int} {row : List Int} {f : Int} {ra : Option Addr} {rc : Nat} (hi : Is d s) (hst : 0 ≤ st ∧ st < s.nx.length) (hf : row[0]? = some f) (hm : f ∈ keys s.L)
    (h : Hs W (pt b5 (.cells #[.int .u16 st] 31 (0, 0)) :: pt b3 (.cells #[.pointer (some ⟨tb, 0, none⟩)] 23 (0, 0)) :: (tabL tb hd d s ++ Z)) w) (hr : Rd w ra (inV .u32 row)) :
    Calls Try.prog 53 #[.slice ra row.length rc, .pointer (some ⟨b3, 0, none⟩), .pointer (some ⟨b5, 0, none⟩)] w (rt fun v w' => v = .bool (isTurn s st row) ∧ Same w w') := by
  have hx : ∃ x, look (pl d.es) f = some x := by
    have := look_isSome.2 hm
    rw [← hi.L] at this
    exact Option.isSome_iff_exists.1 this
  obtain ⟨x, hx⟩ := hx
  have hx' : look s.L f = some x := by rw [← hi.L]; exact hx
  have hl : 0 < row.length := (List.getElem?_eq_some_iff.1 hf).1
  refine F53_ok ?_
  unfold F53
  simp only [rdC_mk, rdA_mk]
  have hs0 := h
  have s4 : Same w w.drew := (Fr.refl w).drew
  unfold drw
  have h4 := h.same s4
  refine h4.ldP 1 rfl rfl ?_
  simp only [nn_some, add_mk]
  refine h4.ldM 2 rfl rfl ?_
  have hr4 := hr.fr s4 fun _ _ x => x
  obtain ⟨ad, hra⟩ := hr4.some (by rw [inV_length]; exact hl)
  rw [hra] at hr4 ⊢
  refine ixS_to (p := 0) rfl hl ?_
  rw [Nat.zero_mul]
  refine ldI_c (hr4.at (inV_at hf)) ?_
  obtain ⟨s10, hs10, g10⟩ := (tab_rt h4.drop.drop).look f
  obtain ⟨e, _, hex, hse⟩ := g10 x hx
  subst hse
  refine exR35_of e.rc ⟨hs10 false, ?_⟩
  have h0 := (Hs.start w.drew)
  refine alcP h0 fun b11 w12 p12 h12 => ⟨p12, ?_⟩
  refine h12.stcL 0 rfl rfl fun w13 h13 => ?_
  have h14 := h13.drew
  have hT := h4.same h14.old
  have h14 : Hs w.drew [pt b11 (.cells e.rc.c 36 (0, 0))] w13.drew := h14
  have hsame := s4.trans h14.old fun _ _ x => x
  refine h14.ldI 0 rfl rfl (hT.ldI 0 rfl rfl ?_)
  have f3 : e.rc.f3 = x.r.f3 := by rw [← hex]; rfl
  have f4 : e.rc.f4 = x.r.f4 := by rw [← hex]; rfl
  have hit : isTurn s st row = (x.r.f3 == st && x.r.f4 == s.nx.getD st.toNat 0) := by
    unfold isTurn
    have : row.headD 0 = f := by
      cases row with
      | nil => cases hf
      | cons a r => simpa using hf
    rw [this, hx']
  rw [f3, hit]
  cases e3 : x.r.f3 == st with
  | false => exact ⟨by first | rfl | trivial, hsame⟩
  | true =>
  rw [br_true]
  refine h14.ldI 0 rfl rfl (hT.ldP 1 rfl rfl ?_)
  simp only [nn_some, add_mk]
  refine hT.ldC 2 rfl rfl (hT.ldI 0 rfl rfl ?_)
  have hrd := hT.rd 5 rfl
  obtain ⟨nd, hna⟩ := hrd.some (by rw [inV_length]; omega)
  have hrd' : Rd w13.drew (some nd) (inV .u16 s.nx) := by rw [← hna]; exact hrd
  obtain ⟨p, hp⟩ : ∃ p : Nat, st = (p : Int) := ⟨st.toNat, by omega⟩
  have hpl : p < s.nx.length := by omega
  show ixS 1 d.na s.nx.length st _
  rw [hna]
  refine ixS_to hp hpl ?_
  rw [Nat.mul_one]
  have hnx : s.nx[p]? = some (s.nx.getD st.toNat 0) := by
    rw [hp, Int.toNat_natCast, List.getD_eq_getElem?_getD, List.getElem?_eq_getElem hpl]; rfl
  refine ldI_c (hrd'.at (inV_at hnx)) ?_
  rw [f4]
  exact ⟨by first | rfl | trivial, hsame⟩
theorem find_map {rs : List Er} {p : List Int → Bool} : (rs.map Er.l).findIdx? p = rs.findIdx? fun e => p e.l := by
  rw [List.findIdx?_map]; rfl
theorem inV_set (k : IntKind) (X : List Int) (j : Nat) (v : Int) : (inV k X).set j (.int k v) = inV k (X.set j v) := by simp [inV, List.map_set]
theorem c32_1 {b3 b5 : Nat} {st : Int} {Kr : World → Prop} :
    ∀ (n : Nat) (s : St) (d : TD) (w1 : World) (k : Nat), Is d s → OkA s → 0 ≤ st ∧ st < s.nx.length → s.wh.length < n → n ≤ k →
      Hs W (pt b5 (.cells #[.int .u16 st] 31 (0, 0)) :: pt b3 (.cells #[.pointer (some ⟨tb, 0, none⟩)] 23 (0, 0)) :: (tabL tb hd d s ++ Z)) w1 →
      (∀ w' d', Is d' (turnS n s st) → Hs W (pt b5 (.cells #[.int .u16 st] 31 (0, 0)) :: pt b3 (.cells #[.pointer (some ⟨tb, 0, none⟩)] 23 (0, 0)) :: (tabL tb hd d' (turnS n s st) ++ Z)) w' → Kr w') →
      F32_1 Kr k (.pointer (some ⟨b3, 0, none⟩)) (.pointer (some ⟨b5, 0, none⟩)) w1 := by
  intro n
  induction n with
  | zero => intro s d w1 k _ _ _ hn; omega
  | succ n ih =>
    intro s d w1 k hi hok hst hn hk h hK
    obtain ⟨k, rfl⟩ : ∃ j, k = j + 1 := ⟨k - 1, by omega⟩
    show F32_1B _ _ _ _ _
    unfold F32_1B
    simp only [rdA_mk]
    refine h.ldP 1 rfl rfl ?_
    simp only [nn_some, add_mk]
    refine h.ldC 2 rfl rfl ?_
    have hwl : s.wh.length = d.rs.length := by rw [← hi.wh, List.length_map]
    have hfew := rows_few hok
    have hrowin : ∀ e ∈ d.rs, e.l ∈ s.wh := fun e he => by rw [← hi.wh]; exact List.mem_map.2 ⟨e, he, rfl⟩
    refine cl (c52 (p := fun e => isTurn s st e.l) (h.rd 6 rfl) (by omega) fun e he w' hs => ?_) ?_
    · obtain ⟨q, hq⟩ := List.getElem?_of_mem he
      have h' := h.same hs
      have hown := h'.big_rd 9 rfl hq (e := 30) (z := 1) (a := e.a) (n := e.l.length) (c := e.c) (xs := inV .u32 e.l) rfl
      obtain ⟨r1, _, r3⟩ := hok.rows e.l (hrowin e he)
      obtain ⟨f, r, hfr⟩ : ∃ f r, e.l = f :: r := by
        cases hl : e.l with
        | nil => exact absurd hl r1
        | cons f r => exact ⟨f, r, rfl⟩
      refine callV_of (by kernel_rfl) (call_of (c53 (f := f) hi hst (by rw [hfr]; rfl) (r3 f (by rw [hfr]; simp)) h' hown.rd) ?_)
      rintro _ w2 ⟨_, rfl, rfl, hs2⟩
      exact ⟨_, rfl, by first | rfl | trivial, hs2⟩
    rintro _ w6 ⟨rfl, s6⟩
    refine ⟨_, rfl, ?_⟩
    have h6 := h.same s6
    have hfind : s.wh.findIdx? (isTurn s st) = d.rs.findIdx? fun e => isTurn s st e.l := by rw [← hi.wh]; exact find_map
    cases hf : d.rs.findIdx? fun e => isTurn s st e.l with
    | none =>
      have e1 : decide (idxV none < 0) = true := rfl
      rw [e1, br_true]
      have et : turnS (n + 1) s st = s := by unfold turnS; rw [hfind, hf]
      rw [et] at hK
      exact hK w6 d hi h6
    | some i =>
      have e1 : decide (idxV (some i) < 0) = false := by rw [decide_eq_false_iff_not]; unfold idxV; simp only; omega
      rw [e1, br_false]
      obtain ⟨hlt, _⟩ := List.findIdx?_eq_some_iff_getElem.1 hf
      obtain ⟨e, he⟩ : ∃ e, d.rs[i]? = some e := ⟨d.rs[i], by simp⟩
      have hwi : s.wh[i]? = some e.l := by rw [← hi.wh, List.getElem?_map, he]; rfl
      have hgd : s.wh.getD i [] = e.l := by rw [List.getD_eq_getElem?_getD, hwi]; rfl
      have et : turnS (n + 1) s st = turnS n (tellS (outS s st i) e.l) st := by
        conv => lhs; unfold turnS
        rw [hfind, hf]
        show turnS n (tellS (outS s st i) (s.wh.getD i [])) st = _
        rw [hgd]
      rw [et] at hK
      obtain ⟨ok2, _⟩ := turn_step (st := st) hok hwi
      refine h6.ldP 1 rfl rfl ?_
      simp only [nn_some, add_mk]
      refine h6.ldC 2 rfl rfl ?_
      have hrd := h6.rd 6 rfl
      obtain ⟨wd, hwa⟩ := hrd.some (by rw [rowV_length]; omega)
      have hrd' : Rd w6 (some wd) (rowV d.rs) := by rw [← hwa]; exact hrd
      show ixS 1 d.wa d.rs.length (i : Int) _
      rw [hwa]
      refine ixS_to rfl hlt ?_
      rw [Nat.mul_one]
      refine ldC_c (hrd'.at (rowV_at he)) ?_
      refine h6.drw fun w14 h14 => ?_
      have hb3 := h14.at 1 rfl
      refine ⟨Sh.lone w14 b3 (.cells #[.pointer (some ⟨tb, 0, none⟩)] 23 (0, 0)), Pres.lone hb3, ?_⟩
      refine ldP_at (lone_at _ _ _) rfl (h14.ldP 1 rfl rfl ?_)
      simp only [nn_some, add_mk]
      refine h14.ldC 2 rfl rfl ?_
      have e2 : IntKind.wrap .i64 ((i : Int) + 1) = ((i + 1 : Nat) : Int) := by rw [wrap_i64 (by omega) (by omega)]; omega
      show Calls Try.prog 54 #[_, .int .i64 (i : Int), .int .i64 (IntKind.wrap .i64 ((i : Int) + 1))] w14 _
      rw [e2]
      refine cl (c54 (h14.own 6 rfl) hlt (by omega)) ?_
      rintro _ w20 ⟨rfl, ho, hfr⟩
      have h20 := h14.slice 6 rfl ho hfr fun _ hk => .inl hk
      refine ⟨_, _, _, rfl, Pres.lone (h20.at 1 rfl), ?_⟩
      refine h20.stc 2 rfl (by simp [tabC, R69.c]) fun w24 h24 => ?_
      refine h24.drw fun w25 h25 => ?_
      have el : d.rs.length - 1 = (d.rs.eraseIdx i).length := by rw [List.length_eraseIdx, if_pos hlt]
      have h26 := h25.big_out 9 (l := d.rs) (F := rowP) (k := i) (x := e) rfl he
      rw [el] at h26
      have h26 : Hs W ([rowP e, pt b5 (.cells #[.int .u16 st] 31 (0, 0)), pt b3 (.cells #[.pointer (some ⟨tb, 0, none⟩)] 23 (0, 0))] ++ (tabL tb hd { d with rs := d.rs.eraseIdx i } { s with wh := s.wh.eraseIdx i } ++ Z)) w25 := h26
      clear h25 h24 h20 h14 h6 h
      refine h26.ldP 2 rfl rfl ?_
      simp only [nn_some, add_mk]
      refine h26.ldC 3 rfl rfl (h26.ldI 1 rfl rfl ?_)
      have hrn := h26.rd 6 rfl
      have hst1 : 0 < s.nx.length := by omega
      obtain ⟨nd, hna⟩ := hrn.some (by rw [inV_length]; exact hst1)
      have hrn' : Rd w25 (some nd) (inV .u16 s.nx) := by rw [← hna]; exact hrn
      obtain ⟨p, hp⟩ : ∃ p : Nat, st = (p : Int) := ⟨st.toNat, by omega⟩
      have hpl : p < s.nx.length := by omega
      have hpn : st.toNat = p := by omega
      have hnx : s.nx[p]? = some (s.nx.getD st.toNat 0) := by
        rw [hpn, List.getD_eq_getElem?_getD, List.getElem?_eq_getElem hpl]; rfl
      show ixS 1 d.na s.nx.length st _
      rw [hna]
      refine ixS_to hp hpl ?_
      rw [Nat.mul_one]
      refine ldI_c (hrn'.at (inV_at hnx)) ?_
      refine ixS_to hp hpl ?_
      rw [Nat.mul_one]
      have h26' : Hs W (rowP e :: pt b5 (.cells #[.int .u16 st] 31 (0, 0)) :: pt b3 (.cells #[.pointer (some ⟨tb, 0, none⟩)] 23 (0, 0)) :: (tabL tb hd { d with rs := d.rs.eraseIdx i, na := some nd } { s with wh := s.wh.eraseIdx i } ++ Z)) w25 := by rw [← hna]; exact h26
      refine h26'.put 6 rfl (by rw [inV_length]; exact hpl) fun w33 h33 => ?_
      refine h33.ldP 2 rfl rfl ?_
      have enl : s.nx.length = (s.nx.set st.toNat (IntKind.wrap .u16 (s.nx.getD st.toNat 0 + 1))).length := by rw [List.length_set]
      have h34 : Hs W ([rowP e, pt b5 (.cells #[.int .u16 st] 31 (0, 0)), pt b3 (.cells #[.pointer (some ⟨tb, 0, none⟩)] 23 (0, 0))] ++ (tabL tb hd { d with rs := d.rs.eraseIdx i, na := some nd } (outS s st i) ++ Z)) w33 := by
        unfold outS tabL tabC
        simp only
        rw [List.length_set, ← inV_set, hpn]
        rw [hpn] at h33
        exact h33
      have hi2 : Is { d with rs := d.rs.eraseIdx i, na := some nd } (outS s st i) := ⟨hi.L, by
        show (d.rs.eraseIdx i).map Er.l = s.wh.eraseIdx i
        rw [← hi.wh, List.eraseIdx_eq_take_drop_succ, List.eraseIdx_eq_take_drop_succ, List.map_append, List.map_take, List.map_drop], hi.M⟩
      obtain ⟨r1, r2, r3⟩ := hok.rows e.l (hrowin e (List.mem_of_getElem? he))
      have h35 := Hs.flip.1 h34
      have hlk : ∀ t ∈ e.l, ∃ x, look (pl d.es) t = some x := fun t ht => by
        have := look_isSome.2 (r3 t ht)
        rw [← hi.L] at this
        exact Option.isSome_iff_exists.1 this
      obtain ⟨f1, f2⟩ := row_few hok r2 r3
      have hbl : pl d.es = s.L := hi.L
      have hmsl : d.ms.length ≤ 2000000000 := by
        have h1 := msgs_few hok
        have h2 : d.ms.length = s.M.length := by rw [← hi.M, List.length_map]
        omega
      refine cl (c31 hi2 hlk r1 r2 (by omega) (by rw [hbl]; omega) (fun y hy => ?_) hmsl h35) ?_
      · have := body_few hok (x := y.x) (by rw [← hi.L]; exact List.mem_map.2 ⟨y, hy, rfl⟩)
        omega
      · rintro _ w35 ⟨rfl, d', hi', h36⟩
        refine ⟨rfl, ?_⟩
        have h37 := (Hs.flip.2 h36 : Hs W ([slP 30 1 e.a e.l.length e.c (inV .u32 e.l), pt b5 (.cells #[.int .u16 st] 31 (0, 0)), pt b3 (.cells #[.pointer (some ⟨tb, 0, none⟩)] 23 (0, 0))] ++ (tabL tb hd d' (tellS (outS s st i) e.l) ++ Z)) w35)
        refine ih (tellS (outS s st i) e.l) d' w35 k hi' ok2 ?_ ?_ (by omega) h37.drop hK
        · show 0 ≤ st ∧ st < ((s.nx.set _ _).length : Int)
          rw [List.length_set]; exact hst
        · show (s.wh.eraseIdx i).length < n
          rw [List.length_eraseIdx]
          split <;> omega
theorem c32 {st : Int} {n : Nat} (hi : Is d s) (hok : OkA s) (hst : 0 ≤ st ∧ st < s.nx.length) (hn : s.wh.length < n) (h : Hs W (tabL tb hd d s ++ Z) w) :
    Calls Try.prog 32 #[.pointer (some ⟨tb, 0, none⟩), .int .u16 st] w (rt fun v w' => v = .tuple #[] ∧ ∃ d', Is d' (turnS n s st) ∧ Hs W (tabL tb hd d' (turnS n s st) ++ Z) w') := by
  refine F32_ok ?_
  unfold F32
  simp only [rdP_mk, rdI_mk]
  refine h.alc fun b3 w4 h4 => h4.alc fun b5 w6 h6 => ?_
  exact ⟨n, c32_1 n s d w6 n hi hok hst hn (Nat.le_refl _) h6 fun w' d' hi' h' _g => ⟨by first | rfl | trivial, d', hi', h'.drop.drop⟩⟩
end
end Go.Proofs.Ytaflmpbeonoilaa
