/-
  The document's Put, whole.
-/
import Derived.Test.YtaflmpbeonoilaaRmRj
namespace Go.Proofs.Ytaflmpbeonoilaa
open Go Go.Sh Go.RowKit
def Put2 (K : Value → World → Prop) (y0_5 y3_5 : Value) (w7 : World) : Prop := ∀ _g8 : Tm, rdP y0_5 fun p9 => rdA y3_5 fun a10 => ∃ l11a l11n l11c, ∃ w12, Sem.run Try.prog (Instr.buildSlice 22 0 #[]) w7 = .ok (.slice l11a l11n l11c) w12 ∧ (ldC (a10.add 13) w12 fun l13a l13n l13c => ∃ l14a l14n l14c w15, Sem.run Try.prog (Builtin.append_ #[22, 22] 22 #[(.slice l11a l11n l11c), (.slice l13a l13n l13c)]) w12 = .ok (.slice l14a l14n l14c) w15 ∧ (stc (a10.add 13) (.slice l14a l14n l14c) w15 fun w16 => drw w16 fun w17 => nn p9 fun a18 => ldC (a18.add 2) w17 fun l19a l19n l19c => ldR35 a10 w17 fun s20 => alc (.cells s20.c 36) w17 fun b21 w22 => Pres w17 w22 ∧ (∃ l23a l23n l23c w24, Sem.run Try.prog (Builtin.append_ #[45, 45] 45 #[(.slice l19a l19n l19c), (.slice (some (Addr.mk b21 0 none)) 1 1)]) w22 = .ok (.slice l23a l23n l23c) w24 ∧ (nn p9 fun a25 => stc (a25.add 2) (.slice l23a l23n l23c) w24 fun w26 => ldI .u32 (a10.add 2) w26 fun n27 => Calls Try.prog 62 #[(.pointer p9), (.int .u32 n27)] w26 fun e29 w28 => ∃ n30, ∃ b31, e29 = .returned (.tuple #[(.int .u32 n30), (.bool b31)]) ∧ (drw w28 fun w32 => ∃ w33 : World, Pres w33 w32 ∧ (br (!b31) (K (.int .i64 0) w32) (ldI .u32 (a10.add 2) w33 fun n34 => Calls Try.prog 64 #[(.pointer p9), (.int .u32 n30)] w32 fun e36 w35 => ∃ l37a l37n l37c, e36 = .returned (.slice l37a l37n l37c) ∧ (Pres w33 w35 ∧ (Calls Try.prog 63 #[(.slice l37a l37n l37c), (.int .u32 n34)] w35 fun e39 w38 => ∃ b40, e39 = .returned (.bool b40) ∧ (br (!b40) (K (.int .i64 0) w38) (F38_6 (fun y4_40 w42 => ∀ _g43 : Tm, rdI .i64 y4_40 fun n44 => K (.int .i64 n44) w42) (.pointer p9) (.pointer (some a10)) (.int .u32 n30) w38)))))))))))
section
variable {W w : World} {L M Z : List HP} {rb lc : Nat} {la : Option Addr} {d : RD} {s : St} {es : List Ec} {Wl : List Int} {st : Int}
theorem c38_3 {K3 : Value → Value → World → Prop} (hok : OkB s) (hi : RIs d s) (ho : Only s st) (hst : 0 ≤ st)
    (hno : s.wh.findIdx? (isTurn s st) = none → ∀ w', Hs W (refL rb d s (heads s) ++ Z) w' → K3 (.pointer (some ⟨rb, 0, none⟩)) (.bool false) w')
    (hyes : ∀ i row, s.wh.findIdx? (isTurn s st) = some i → s.wh[i]? = some row → ∀ w' d', RIs d' (tellS (outS s st i) row) → Hs W (refL rb d' (tellS (outS s st i) row) (heads (tellS (outS s st i) row)) ++ Z) w' → K3 (.pointer (some ⟨rb, 0, none⟩)) (.bool true) w') :
    ∀ (m j k : Nat) (w : World), j + m = s.wh.length → (∀ r ∈ s.wh.take j, isTurn s st r = false) → m + 1 < k → Hs W (refL rb d s (heads s) ++ Z) w →
      F38_3 K3 k (.pointer (some ⟨rb, 0, none⟩)) (.bool false) (.int .i64 (j : Int)) w := by
  have hfew := rows_few hok.toOkA
  have hcnt := hok.cnt
  intro m
  induction m with
  | zero =>
    intro j k w hj hf hk h
    obtain ⟨k, rfl⟩ : ∃ j, k = j + 1 := ⟨k - 1, by omega⟩
    show F38_3B _ _ _ _ _ _
    unfold F38_3B
    simp only [rdP_mk, rdB_mk, rdI_mk, nn_some, add_mk]
    refine rl6 h 0 rfl ?_
    rw [br_dec]
    refine ⟨fun hlt => by exfalso; rw [heads_len] at hlt; omega, fun _ => hno ?_ w h⟩
    rw [List.take_of_length_le (by omega)] at hf
    exact List.findIdx?_eq_none_iff.2 hf
  | succ m ih =>
    intro j k w hj hf hk h
    obtain ⟨k, rfl⟩ : ∃ j, k = j + 1 := ⟨k - 1, by omega⟩
    show F38_3B _ _ _ _ _ _
    unfold F38_3B
    simp only [rdP_mk, rdB_mk, rdI_mk, nn_some, add_mk, Bool.not_false, br_true]
    refine rl6 h 0 rfl ?_
    rw [br_dec]
    refine ⟨fun _ => ?_, fun hlt => by exfalso; rw [heads_len] at hlt; omega⟩
    obtain ⟨row, hrow⟩ : ∃ row, s.wh[j]? = some row := ⟨s.wh[j]'(by omega), by simp⟩
    have hmem := List.mem_of_getElem? hrow
    obtain ⟨r1, r2, r3⟩ := hok.rows row hmem
    have hkey := r3 _ (mem_head r1)
    obtain ⟨x, hx⟩ := Option.isSome_iff_exists.1 (look_isSome.2 hkey)
    have hx' : look (pl d.es) (row.headD 0) = some x := by show look (d.es.map Ec.x) _ = _; rw [hi.L]; exact hx
    obtain ⟨q, e, hq, hqe, hex, _⟩ := (idx_look (t := row.headD 0)).1 x hx'
    have hwj : (heads s)[j]? = some (row.headD 0) := by rw [List.getElem?_map, hrow]; rfl
    have hjl : j < (heads s).length := (List.getElem?_eq_some_iff.1 hwj).1
    have hel := ch_len hi
    have hidx : isTurn s st row = true → s.wh.findIdx? (isTurn s st) = some j := fun ht => by
      rw [List.findIdx?_eq_some_iff_getElem]
      have hr : s.wh[j] = row := (List.getElem?_eq_some_iff.1 hrow).2
      refine ⟨by omega, by rw [hr]; exact ht, fun q hq => ?_⟩
      have := hf s.wh[q] (by rw [List.mem_take_iff_getElem]; exact ⟨q, by omega, rfl⟩)
      rw [this]; simp
    have e1 : IntKind.wrap .i64 ((j : Int) + 1) = ((j + 1 : Nat) : Int) := by rw [wrap_i64 (by omega) (by omega)]; omega
    unfold F38_2
    simp only [rdP_mk, rdB_mk, rdI_mk, nn_some, add_mk, e1]
    refine h.drw fun w4 h4 => ⟨w4, Pres.refl _, ?_⟩
    refine rl2 h4 0 rfl (rl6 h4 0 rfl ?_)
    have hrw := h4.rd 5 rfl
    obtain ⟨yd, hya⟩ := hrw.some (by rw [inV_length]; omega)
    have hrw' : Rd w4 (some yd) (inV .u32 (heads s)) := by rw [← hya]; exact hrw
    rw [hya]
    refine ixS_to rfl hjl ?_
    rw [Nat.mul_one]
    refine ldI_c (hrw'.at (inV_at hwj)) ?_
    have nx0 : ∀ {b : Nat} {w5 : World} {Kn : Value → Value → Value → World → Prop}, (∀ (bb : Bool) w', F38_3 K3 k (.pointer (some ⟨rb, 0, none⟩)) (.bool bb) (.int .i64 ((j + 1 : Nat) : Int)) w' → Kn (.pointer (some ⟨rb, 0, none⟩)) (.bool bb) (.int .i64 (j : Int)) w') → Hs W (pt b (.cells e.rc.c 36 (0, 0)) :: (refL rb d s (heads s) ++ Z)) w5 →
        F38_1 Kn (.pointer (some ⟨rb, 0, none⟩)) (.bool false) (.int .i64 (j : Int)) (.pointer (some ⟨b, 0, none⟩)) w5 := by
      intro b w5 Kn hKn h5
      refine c38_1 (f := 0) (n := 0) hok hi ho hst hrow hx hex hidx (fun hff w' h' => hKn false w' ?_) (fun ht w' d' hi' h' => hKn true w' ?_) h5
      · refine ih (j + 1) k w' (by omega) (fun r hr => ?_) (by omega) h'
        rw [List.take_add_one, hrow] at hr
        rcases List.mem_append.1 hr with hr | hr
        · exact hf r hr
        · simp at hr; subst hr; exact hff
      · obtain ⟨k, rfl⟩ : ∃ j, k = j + 1 := ⟨k - 1, by omega⟩
        show F38_3B _ _ _ _ _ _
        unfold F38_3B
        simp only [rdP_mk, rdB_mk, rdI_mk, nn_some, add_mk, Bool.not_true, br_false]
        refine rl6 h' 0 rfl ?_
        rw [br_iff]
        exact ⟨fun _ => hyes j row (hidx ht) hrow w' d' hi' h', fun _ => hyes j row (hidx ht) hrow w' d' hi' h'⟩
    have wrapk : ∀ (bb : Bool) w', F38_3 K3 k (.pointer (some ⟨rb, 0, none⟩)) (.bool bb) (.int .i64 ((j + 1 : Nat) : Int)) w' → F38_3 K3 k (.pointer (some ⟨rb, 0, none⟩)) (.bool bb) (.int .i64 (IntKind.wrap .i64 ((j : Int) + 1))) w' := fun bb w' h' => by rw [e1]; exact h'
    constructor
    · refine clr (c60 (ref_rr h4) _ (by omega)) ⟨_, rfl, Pres.refl _, ?_⟩
      rw [hq]
      refine ch_ix (h4.rd 1 rfl) (i := idxV (some q)) rfl hqe fun ad ha => ?_
      refine ldR35_of ha ?_
      refine alcP h4 fun b17 w5 p5 h5 => ⟨p5, ?_⟩
      refine h5.stcL 0 rfl rfl fun w6 h6 => ?_
      refine nx0 (fun bb w' hw' _g => ?_) h6
      simp only [rdP_mk, rdB_mk, rdI_mk]
      intro _
      exact wrapk bb w' hw'
    · refine alcP h4 fun b26 w5 p5 h5 => ⟨p5, ?_⟩
      refine clr (c60 (ref_rr h5.drop) _ (by omega)) ⟨_, rfl, p5, ?_⟩
      rw [hq]
      refine ch_ix (h4.rd 1 rfl) (i := idxV (some q)) rfl hqe fun ad ha => ?_
      refine ldR35_of ha ?_
      refine h5.stcL 0 rfl rfl fun w6 h6 => ?_
      refine nx0 (fun bb w' hw' _g => ?_) h6
      simp only [rdP_mk, rdB_mk, rdI_mk]
      intro _
      exact wrapk bb w' hw'
theorem c38_4 {K1 : World → Prop} (hst : 0 ≤ st) : ∀ (n : Nat) (s : St) (d : RD) (w : World), OkB s → RIs d s → Only s st → s.wh.length < n → (∀ w' d', RIs d' (turnS n s st) → Hs W (refL rb d' (turnS n s st) (heads (turnS n s st)) ++ Z) w' → K1 w') → Hs W (refL rb d s (heads s) ++ Z) w →
    ∀ k, n < k → F38_4 K1 k (.pointer (some ⟨rb, 0, none⟩)) (.bool true) w
  | 0, s, _, _, _, _, _, hn, _, _ => by omega
  | n + 1, s, d, w, hok, hi, ho, hn, hK, h => by
    intro k hk
    obtain ⟨k, rfl⟩ : ∃ j, k = j + 1 := ⟨k - 1, by omega⟩
    show F38_4B _ _ _ _ _
    unfold F38_4B
    simp only [rdP_mk, rdB_mk, br_true]
    refine ⟨s.wh.length + 2, c38_3 hok hi ho hst (fun hf w' h' _g => ?_) (fun i row hf hr w' d' hi' h' _g => ?_) s.wh.length 0 _ w (by omega) (by simp) (by omega) h⟩
    · simp only [rdP_mk, rdB_mk]
      have e : turnS (n + 1) s st = s := by show (match s.wh.findIdx? (isTurn s st) with | none => s | some i => _) = s; rw [hf]
      rw [e] at hK
      obtain ⟨k, rfl⟩ : ∃ j, k = j + 1 := ⟨k - 1, by omega⟩
      show F38_4B _ _ _ _ _
      unfold F38_4B
      simp only [rdP_mk, rdB_mk, br_false]
      exact hK w' d hi h'
    · simp only [rdP_mk, rdB_mk]
      have hg : s.wh.getD i [] = row := by rw [List.getD_eq_getElem?_getD, hr]; rfl
      have e : turnS (n + 1) s st = turnS n (tellS (outS s st i) row) st := by show (match s.wh.findIdx? (isTurn s st) with | none => s | some i => turnS n (tellS (outS s st i) (s.wh.getD i [])) st) = _; rw [hf]; simp only; rw [hg]
      rw [e] at hK
      have hil : i < s.wh.length := (List.getElem?_eq_some_iff.1 hr).1
      refine c38_4 hst n (tellS (outS s st i) row) d' w' (turn_stepB (st := st) hok hr) hi' (only_step hok ho hst hr) ?_ hK h' k (by omega)
      show (s.wh.eraseIdx i).length < n
      rw [List.length_eraseIdx_of_lt hil]
      omega
end
end Go.Proofs.Ytaflmpbeonoilaa
namespace Go.Proofs.Ytaflmpbeonoilaa
open Go Go.Sh Go.RowKit
section
variable {W w : World} {L M Z : List HP} {rb lc : Nat} {la : Option Addr} {d : RD} {s : St} {es : List Ec} {Wl : List Int} {st : Int}
/-- what is asked ahead -/
theorem c38_5 {Kn : Value → Value → World → Prop} {Kr : Value → World → Prop} {b3 : Nat} {x : R35} {c : Ch} {same : Bool} (hok : OkB s) (hi : RIs d s) (hlim : 0 ≤ s.lim ∧ s.lim ≤ 1073741824) (hx : x.f13n = c.b.length) (hsame : same = decide ((look s.L c.tsn).isSome = true ∨ c.tsn ∈ s.F)) (hpre : putE s c = if same = true then 200 else if s.lim - (tot s : Int) < c.b.length then 161 else if 32768 ≤ s.L.length + s.F.length then 3 else 0)
    (hbl : c.b.length ≤ 65531)
    (hr : putE s c ≠ 0 → ∀ w', Hs W (pt b3 (.cells x.c 36 (0, 0)) :: (refL rb d s (heads s) ++ Z)) w' → Kr (.int .i64 (putE s c)) w')
    (hn : putE s c = 0 → ∀ w', Hs W (pt b3 (.cells x.c 36 (0, 0)) :: (refL rb d s (heads s) ++ Z)) w' → Kn (.pointer (some ⟨rb, 0, none⟩)) (.pointer (some ⟨b3, 0, none⟩)) w')
    (h : Hs W (pt b3 (.cells x.c 36 (0, 0)) :: (refL rb d s (heads s) ++ Z)) w) :
    F38_5 Kn Kr (.pointer (some ⟨rb, 0, none⟩)) (.pointer (some ⟨b3, 0, none⟩)) (.bool same) w := by
  unfold F38_5
  simp only [rdP_mk, rdA_mk, rdB_mk, nn_some, add_mk]
  have hcnt := hok.cnt
  have hml := ms_len hok
  have htot := hok.tot
  rw [br_iff]
  refine ⟨fun hs => ?_, fun hs => ?_⟩
  · rw [if_pos hs] at hpre
    have := hr (by rw [hpre]; decide) w h
    rw [hpre] at this
    exact this
  rw [if_neg (by rw [hs]; simp)] at hpre
  refine h.drw fun w4 h4 => ⟨w4, Pres.refl _, ?_⟩
  refine h4.ldC 0 rfl rfl (h4.ldI 1 rfl rfl ?_)
  refine clr (c43 (Wl := heads s) (Z := Z) hi htot (by omega) (by omega) h4.drop) ⟨_, rfl, Pres.refl _, ?_⟩
  have e1 : IntKind.wrap .i64 ((tot s : Int) + (x.f13n : Int)) = (tot s : Int) + (c.b.length : Int) := by rw [hx, wrap_i64 (by omega) (by omega)]
  rw [e1]
  show br (decide (((tot s : Int) + (c.b.length : Int)) > s.lim)) _ _
  rw [br_dec]
  refine ⟨fun hg => ?_, fun hg => ?_⟩
  · rw [if_pos (by omega)] at hpre
    have := hr (by rw [hpre]; decide) w4 h4
    rw [hpre] at this
    exact this
  rw [if_neg (by omega)] at hpre
  refine h4.drw fun w5 h5 => ?_
  refine rl2 h5 1 rfl (rl5 h5 1 rfl ?_)
  have hel := ch_len hi
  have e2 : IntKind.wrap .i64 ((d.es.length : Int) + (s.F.length : Int)) = ((s.L.length + s.F.length : Nat) : Int) := by rw [hel, wrap_i64 (by omega) (by omega)]; omega
  rw [e2, br_dec]
  refine ⟨fun hg => ?_, fun hg => ?_⟩
  · rw [if_pos (by omega)] at hpre
    have := hr (by rw [hpre]; decide) w5 h5
    rw [hpre] at this
    exact this
  · rw [if_neg (by omega)] at hpre
    exact hn hpre w5 h5
theorem c38_7 {Kn : Value → Value → World → Prop} {Kr : Value → World → Prop} {b3 : Nat} {x : R35} {c : Ch} {bad : Bool} (hok : OkB s) (hi : RIs d s) (hlim : 0 ≤ s.lim ∧ s.lim ≤ 1073741824) (hx : x.f13n = c.b.length) (hxt : x.f2 = c.tsn) (hx3 : x.f3 = c.r.f3) (hck : CkOk c) (hnx : s.nx.length ≤ 65536)
    (hbad : bad = decide (c.r.f0 ≠ 0 ∨ c.b.length = 0 ∨ (65531 : Int) < c.b.length))
    (hr : putE s c ≠ 0 → ∀ w', Hs W (pt b3 (.cells x.c 36 (0, 0)) :: (refL rb d s (heads s) ++ Z)) w' → Kr (.int .i64 (putE s c)) w')
    (hn : putE s c = 0 → ∀ w', Hs W (pt b3 (.cells x.c 36 (0, 0)) :: (refL rb d s (heads s) ++ Z)) w' → Kn (.pointer (some ⟨rb, 0, none⟩)) (.pointer (some ⟨b3, 0, none⟩)) w')
    (h : Hs W (pt b3 (.cells x.c 36 (0, 0)) :: (refL rb d s (heads s) ++ Z)) w) :
    F38_7 Kn Kr (.pointer (some ⟨rb, 0, none⟩)) (.pointer (some ⟨b3, 0, none⟩)) (.bool bad) w := by
  unfold F38_7
  simp only [rdP_mk, rdA_mk, rdB_mk, nn_some, add_mk]
  have hcnt := hok.cnt
  have hpre : putE s c = if c.r.f0 ≠ 0 ∨ c.b.length = 0 ∨ (65531 : Int) < c.b.length then 201
      else if (s.nx.length : Int) ≤ c.r.f3 then 160
      else if (look s.L c.tsn).isSome = true ∨ c.tsn ∈ s.F then 200
      else if s.lim - (tot s : Int) < c.b.length then 161
      else if 32768 ≤ s.L.length + s.F.length then 3 else 0 := rfl
  rw [br_iff]
  refine ⟨fun hb => ?_, fun hb => ?_⟩
  · rw [hbad, decide_eq_true_eq] at hb
    rw [if_pos hb] at hpre
    have := hr (by rw [hpre]; decide) w h
    rw [hpre] at this
    exact this
  rw [hbad, decide_eq_false_iff_not] at hb
  rw [if_neg hb] at hpre
  have hbl : c.b.length ≤ 65531 := by
    rcases Nat.lt_or_ge 65531 c.b.length with hc | hc
    · exact absurd (.inr (.inr (by omega))) hb
    · exact hc
  refine h.drw fun w4 h4 => ?_
  refine h4.ldI 0 rfl rfl (h4.ldI 1 rfl rfl ?_)
  have e1 : IntKind.wrap .i64 x.f3 = c.r.f3 := by rw [hx3]; exact wrap_i64 (by have := hck.s; omega) (by have := hck.s; omega)
  rw [e1]
  show br (decide (c.r.f3 ≥ (s.nx.length : Int))) _ _
  rw [br_dec]
  refine ⟨fun hg => ?_, fun hg => ?_⟩
  · rw [if_pos hg] at hpre
    have := hr (by rw [hpre]; decide) w4 h4
    rw [hpre] at this
    exact this
  rw [if_neg hg] at hpre
  refine h4.drw fun w8 h8 => ?_
  refine h8.ldI 0 rfl rfl ?_
  have hel := ch_len hi
  show Calls Try.prog 60 #[_, .int .u32 x.f2] w8 _
  rw [hxt]
  refine clr (c60 (ref_rr (Wl := heads s) (L := Z) h8.drop) c.tsn (by omega)) ⟨_, rfl, ?_⟩
  have five : ∀ (same : Bool) (w10 : World) (Kn' : Value → Value → World → Prop) (Kr' : Value → World → Prop), same = decide ((look s.L c.tsn).isSome = true ∨ c.tsn ∈ s.F) → (∀ y0 y3 w', Kn (.pointer (some ⟨rb, 0, none⟩)) (.pointer (some ⟨b3, 0, none⟩)) w' → y0 = .pointer (some ⟨rb, 0, none⟩) → y3 = .pointer (some ⟨b3, 0, none⟩) → Kn' y0 y3 w') → (∀ n w', Kr (.int .i64 n) w' → Kr' (.int .i64 n) w') →
      Hs W (pt b3 (.cells x.c 36 (0, 0)) :: (refL rb d s (heads s) ++ Z)) w10 → F38_5 Kn' Kr' (.pointer (some ⟨rb, 0, none⟩)) (.pointer (some ⟨b3, 0, none⟩)) (.bool same) w10 := by
    intro same w10 Kn' Kr' hsame hk1 hk2 h10
    refine c38_5 hok hi hlim hx hsame ?_ hbl (fun hne w' h' => hk2 _ w' (hr hne w' h')) (fun he w' h' => hk1 _ _ w' (hn he w' h') rfl rfl) h10
    rw [hpre, hsame]
    simp only [decide_eq_true_eq]
  cases hlk : look s.L c.tsn with
  | some y =>
    obtain ⟨j, e, hj, _, _, _⟩ := (idx_look (es := d.es) (t := c.tsn)).1 y (by show look (d.es.map Ec.x) _ = _; rw [hi.L]; exact hlk)
    rw [hj, br_dec]
    refine ⟨fun _ => ?_, fun hc => by exfalso; exact hc (by show (j : Int) ≥ 0; omega)⟩
    refine five true w8 _ _ (by rw [hlk]; simp) (fun y0 y3 w' hk e0 e3 _g => ?_) (fun n w' hk _g => ?_) h8
    · subst e0 e3; simp only [rdP_mk, rdA_mk]; exact hk
    · simp only [rdI_mk]; exact hk
  | none =>
    rw [(idx_look (es := d.es) (t := c.tsn)).2 (by show look (d.es.map Ec.x) _ = _; rw [hi.L]; exact hlk), br_dec]
    refine ⟨fun hc => absurd hc (by decide), fun _ => ?_⟩
    refine rl5 h8 1 rfl (h8.ldI 0 rfl rfl ?_)
    show Calls Try.prog 61 #[_, .int .u32 x.f2] w8 _
    rw [hxt]
    refine clr (c61 (h8.rd 5 rfl) c.tsn (by omega)) ⟨_, rfl, ?_⟩
    refine five _ w8 _ _ (by rw [hlk]; simp) (fun y0 y3 w' hk e0 e3 _g => ?_) (fun n w' hk _g => ?_) h8
    · subst e0 e3; simp only [rdP_mk, rdA_mk]; exact hk
    · simp only [rdI_mk]; exact hk
end
end Go.Proofs.Ytaflmpbeonoilaa
