/- Own text: part of the shallow reading of the code and of the contracts that are proved over it. -/
import Derived.Test.YtccffjlahpfdaaaDoorIbB
namespace Go.Proofs.YtccffjlahpfdaaaDoor
open Go Go.Sh Go.Sp
/-! the document's box -/
def rngL (l : List Int) : Prop := ∀ y ∈ l, 0 ≤ y ∧ y < 4294967296
section
variable {W w : World} {L : List HP} {bb rr : Nat} {D : BD} {R : RD} {x : BX}
theorem ref_cum (h : Hs W (refL rr R x ++ L) w) : ∃ cs, w.heap[R.s]? = some (.cells cs 32 (0, 0)) ∧ cs[0]? = some (.int .u32 x.cum) := by
  obtain ⟨a, ha, _⟩ := ref_open h
  obtain ⟨c, h1, _⟩ := ha.blk
  exact ⟨_, h1, rfl⟩
theorem c42 (h : Hs W (refL rr R x ++ L) w) (hl : x.fx.length ≤ 1048576) (t : Int) : Calls Tryd.prog 42 #[.pointer (some ⟨rr, 0, none⟩), .int .u32 t] w (rt (KR (.bool (decide (t ∈ x.fx))) w)) := by
  refine F42_ok ?_
  unfold F42
  simp only [rdP_mk, rdI_mk]
  have loop : ∀ (i j : Nat) (k : Nat) (K0 : World → Prop) (Kr : Value → World → Prop), j + i = x.fx.length → t ∉ x.fx.take j → i < k → (t ∉ x.fx → K0 w) → (t ∈ x.fx → Kr (.bool true) w) → F42_1 K0 Kr k (.pointer (some ⟨rr, 0, none⟩)) (.int .u32 t) (.int .i64 (j : Int)) w := by
    intro i
    induction i with
    | zero =>
      intro j k K0 Kr hj ht hk h0 h1
      obtain ⟨k, rfl⟩ : ∃ j, k = j + 1 := ⟨k - 1, by omega⟩
      show F42_1B _ _ _ _ _ _ _
      unfold F42_1B
      simp only [rdP_mk, rdI_mk, nn_some, add_mk]
      refine h.ldC 0 rfl rfl ?_
      rw [br_dec]
      refine ⟨fun h => by exfalso; omega, fun _ => h0 ?_⟩
      rwa [List.take_of_length_le (by omega)] at ht
    | succ i ih =>
      intro j k K0 Kr hj ht hk h0 h1
      obtain ⟨k, rfl⟩ : ∃ j, k = j + 1 := ⟨k - 1, by omega⟩
      show F42_1B _ _ _ _ _ _ _
      unfold F42_1B
      simp only [rdP_mk, rdI_mk, nn_some, add_mk]
      refine h.ldC 0 rfl rfl ?_
      rw [br_dec]
      refine ⟨fun _ => h.ldC 0 rfl rfl ?_, fun h => by exfalso; omega⟩
      obtain ⟨y, hy⟩ : ∃ y, x.fx[j]? = some y := ⟨x.fx[j]'(by omega), by simp⟩
      have hr := h.rd 2 rfl
      obtain ⟨ad, hod⟩ := hr.some (by rw [nV_length]; omega)
      rw [hod] at hr ⊢
      refine ixS_of (by omega) (by omega) ?_
      rw [Int.toNat_natCast, Nat.mul_one]
      refine ldI_c (hr.at (nV_at hy)) ?_
      have e1 : IntKind.wrap .i64 ((j : Int) + 1) = ((j + 1 : Nat) : Int) := by rw [wrap_i64 (by omega) (by omega)]; omega
      have htk : x.fx.take (j + 1) = x.fx.take j ++ [y] := by rw [List.take_add_one, hy]; rfl
      rw [br_iff, e1]
      refine ⟨fun hb => h1 ?_, fun hb => ih (j + 1) k K0 Kr (by omega) ?_ (by omega) h0 h1⟩
      · have : y = t := by simpa using hb
        subst this; exact List.mem_of_getElem? hy
      · have : y ≠ t := by simpa using hb
        rw [htk]; simp [ht, Ne.symm this]
  refine ⟨x.fx.length + 1, loop x.fx.length 0 _ _ _ (by omega) (by simp) (by omega) (fun hn _g => ⟨by rw [decide_eq_false hn], rfl⟩) fun ht _g => ?_⟩
  simp only [rdB_mk]
  exact ⟨by rw [decide_eq_true ht], rfl⟩
theorem above_eq (hS : ∀ d ∈ x.S, 2 ≤ d ∧ d ≤ 65535) (h0 : 0 ≤ x.cum) (h1 : x.cum < 4294967296) {t : Int} (t0 : 0 ≤ t) (t1 : t < 4294967296) : (decide (sd x.cum t > 0) && hasS x.cum x.S t) = decide (t ∈ nums x.cum x.S) := by
  rw [Bool.eq_iff_iff]
  simp only [Bool.and_eq_true, decide_eq_true_eq, hasS, Bool.or_eq_true]
  rw [mem_nums_sd h0 h1 hS t0 t1]
  constructor
  · rintro ⟨h2, h3 | h3⟩
    · omega
    · exact h3
  · intro h2
    have := hS _ h2
    exact ⟨by omega, .inr h2⟩
theorem c41 (h : Hs W (refL rr R x ++ L) w) {t : Int} (t0 : 0 ≤ t) (t1 : t < 4294967296) : Calls Tryd.prog 41 #[.pointer (some ⟨rr, 0, none⟩), .int .u32 t] w (rt (KR (.bool (decide (t ∈ nums x.cum x.S))) w)) := by
  obtain ⟨hS, h0, h1, _⟩ := ref_rng h
  rw [← above_eq hS h0 h1 t0 t1]
  refine F41_ok ?_
  unfold F41
  simp only [rdP_mk, rdI_mk, nn_some, add_mk]
  obtain ⟨cs, hc, hc0⟩ := ref_cum h
  refine h.ldP 0 rfl rfl ?_
  simp only [nn_some, add_mk]
  refine ldI_at hc hc0 (clr (c15 x.cum t w h0 h1 t0 t1) ⟨_, rfl, ?_⟩)
  rw [br_dec]
  refine ⟨fun hb => ?_, fun hb => ?_⟩
  · obtain ⟨a, ha, _⟩ := ref_open h
    refine h.ldP 0 rfl rfl (clr (r48 ha t0 t1) ⟨_, rfl, ?_⟩)
    rw [decide_eq_true hb, Bool.true_and]
    exact ⟨rfl, rfl⟩
  · rw [decide_eq_false hb, Bool.false_and]; exact ⟨rfl, rfl⟩
theorem c44 (h : Hs W (refL rr R x ++ L) w) (hl : x.fx.length ≤ 1048576) {t : Int} (t0 : 0 ≤ t) (t1 : t < 4294967296) : Calls Tryd.prog 44 #[.pointer (some ⟨rr, 0, none⟩), .int .u32 t] w (rt fun v w' => v = .bool (!decide (t ∈ x.fx) && decide ((sd x.cum t).toNat ∈ x.S)) ∧ Hs W (refL rr R { x with S := if t ∈ x.fx then x.S else del (sd x.cum t).toNat x.S } ++ L) w') := by
  obtain ⟨hS, h0, h1, _⟩ := ref_rng h
  refine F44_ok ?_
  unfold F44
  simp only [rdP_mk, rdI_mk]
  refine clr (c41 h t0 t1) ⟨_, rfl, ?_⟩
  by_cases ha : t ∈ nums x.cum x.S
  · rw [decide_eq_true ha, Bool.not_true, br_false]
    refine clr (c42 h hl t) ⟨_, rfl, ?_⟩
    by_cases hf : t ∈ x.fx
    · rw [decide_eq_true hf, br_true]
      simp only [hf, Bool.not_true, Bool.false_and, if_true]
      exact ⟨trivial, h⟩
    · rw [decide_eq_false hf, br_false]
      unfold F44_1
      simp only [rdP_mk, rdI_mk, nn_some, add_mk]
      obtain ⟨a, hr, k⟩ := ref_open h
      refine h.ldP 0 rfl rfl (cl (r66 hr t0 t1) ?_)
      rintro _ w1 ⟨rfl, a', q1, q2, q3⟩
      refine ⟨_, rfl, ?_⟩
      intro _g
      simp only [rdB_mk, hf, Bool.not_false, Bool.true_and, if_false]
      exact ⟨trivial, k (fun k hk => .inr (q2 k hk)) q1 (q3.mono fun k _ e => .inl e)⟩
  · rw [decide_eq_false ha, Bool.not_false, br_true]
    have hn : (sd x.cum t).toNat ∉ x.S := fun hh => ha ((mem_nums_sd h0 h1 hS t0 t1).2 hh)
    refine ⟨by simp [hn], ?_⟩
    rw [del_same hn, ite_self]
    exact h
/-! tidy -/
theorem c38 (h : Hs W (refL rr R x ++ L) w) (hl : x.fx.length ≤ 1048576) (hx : rngL x.fx) : Calls Tryd.prog 38 #[.pointer (some ⟨rr, 0, none⟩)] w (rt fun v w' => v = .tuple #[] ∧ ∃ R', Hs W (refL rr R' { x with fx := x.fx.filter fun y => decide (sd x.cum y > 0) } ++ L) w') := by
  refine F38_ok ?_
  unfold F38
  simp only [rdP_mk]
  obtain ⟨hS, h0, h1, _⟩ := ref_rng h
  obtain ⟨p, hp⟩ : ∃ p : Int → Bool, p = fun y => decide (sd x.cum y > 0) := ⟨_, rfl⟩
  have loop : ∀ (i j : Nat) (oa : Option Addr) (oc : Nat) (w1 : World) (k : Nat) (K0 : Value → Value → World → Prop), j + i = x.fx.length → Hs W (slP 22 1 oa ((x.fx.take j).filter p).length oc (nV ((x.fx.take j).filter p)) :: (refL rr R x ++ L)) w1 → i < k →
      (∀ w' a c, Hs W (slP 22 1 a (x.fx.filter p).length c (nV (x.fx.filter p)) :: (refL rr R x ++ L)) w' → K0 (.pointer (some ⟨rr, 0, none⟩)) (.slice a (x.fx.filter p).length c) w') →
      F38_1 K0 k (.pointer (some ⟨rr, 0, none⟩)) (.slice oa ((x.fx.take j).filter p).length oc) (.int .i64 (j : Int)) w1 := by
    intro i
    induction i with
    | zero =>
      intro j oa oc w1 k K0 hj hw hk hK
      obtain ⟨k, rfl⟩ : ∃ j, k = j + 1 := ⟨k - 1, by omega⟩
      show F38_1B _ _ _ _ _ _
      unfold F38_1B
      simp only [rdP_mk, rdC_mk, rdI_mk, nn_some, add_mk]
      refine hw.ldC 1 rfl rfl ?_
      rw [br_dec]
      have e : x.fx.take j = x.fx := List.take_of_length_le (by omega)
      rw [e] at hw ⊢
      exact ⟨fun h => by exfalso; omega, fun _ => hK _ _ _ hw⟩
    | succ i ih =>
      intro j oa oc w1 k K0 hj hw hk hK
      obtain ⟨k, rfl⟩ : ∃ j, k = j + 1 := ⟨k - 1, by omega⟩
      show F38_1B _ _ _ _ _ _
      unfold F38_1B drw
      simp only [rdP_mk, rdC_mk, rdI_mk, nn_some, add_mk]
      refine hw.ldC 1 rfl rfl ?_
      rw [br_dec]
      refine ⟨fun _ => ?_, fun h => by exfalso; omega⟩
      have hw2 := hw.drew
      generalize w1.drew = w2 at hw2 ⊢
      obtain ⟨cs, hc, hc0⟩ := ref_cum hw2.drop
      obtain ⟨y, hy⟩ : ∃ y, x.fx[j]? = some y := ⟨x.fx[j]'(by omega), by simp⟩
      have hyr := hx y (List.mem_of_getElem? hy)
      have hr := hw2.rd 3 rfl
      obtain ⟨ad, hod⟩ := hr.some (by rw [nV_length]; omega)
      refine hw2.ldP 1 rfl rfl ?_
      simp only [nn_some, add_mk]
      refine ldI_at hc hc0 (hw2.ldC 1 rfl rfl ?_)
      rw [hod] at hr ⊢
      refine ixS_of (by omega) (by omega) ?_
      rw [Int.toNat_natCast, Nat.mul_one]
      refine ldI_c (hr.at (nV_at hy)) (clr (c15 x.cum y w2 h0 h1 hyr.1 hyr.2) ⟨_, rfl, ?_⟩)
      have e1 : IntKind.wrap .i64 ((j : Int) + 1) = ((j + 1 : Nat) : Int) := by rw [wrap_i64 (by omega) (by omega)]; omega
      have htk : (x.fx.take (j + 1)).filter p = (x.fx.take j).filter p ++ (if p y then [y] else []) := by
        rw [List.take_add_one, hy, List.filter_append]
        cases hpy : p y <;> simp [hpy]
      have hle : ((x.fx.take j).filter p).length ≤ 1048576 := Nat.le_trans (List.length_filter_le _ _) (by rw [List.length_take]; omega)
      have hpy : p y = decide (sd x.cum y > 0) := by rw [hp]
      rw [e1, ← hpy, br_iff]
      refine ⟨fun hb => hw2.ldC 1 rfl rfl ?_, fun hb => ?_⟩
      · rw [hod]
        refine ixS_of (by omega) (by omega) ?_
        rw [Int.toNat_natCast, Nat.mul_one]
        refine ldI_c (hr.at (nV_at hy)) ?_
        unfold alc
        refine hw2.push E30 0 rfl (news := #[_]) rfl (by simp [Value.oneCell']) (by omega) (by omega) ?_
        intro a' c' w3 h3
        rw [hb, if_pos rfl] at htk
        have := ih (j + 1) a' c' w3 k K0 (by omega)
        rw [htk] at this
        simp only [List.length_append, List.length_singleton] at this
        refine this ?_ (by omega) hK
        have e5 : nV ((x.fx.take j).filter p ++ [y]) = nV ((x.fx.take j).filter p) ++ [.int .u32 y] := nV_snoc _ _
        rw [e5]
        exact h3
      · rw [hb] at htk
        simp only [Bool.false_eq_true, if_false, List.append_nil] at htk
        have := ih (j + 1) oa oc w2 k K0 (by omega)
        rw [htk] at this
        exact this hw2 (by omega) hK
  refine ⟨x.fx.length + 1, loop x.fx.length 0 none 0 w _ _ (by omega) (h.nil 22 1) (by omega) fun w1 a c h1 _g => ?_⟩
  simp only [rdP_mk, rdC_mk, nn_some, add_mk]
  refine h1.stc 1 rfl (by simp) fun w2 h2 => ⟨trivial, ⟨R.s, a, c, R.da, R.dc⟩, ?_⟩
  have h3 := h2.erase 3
  rw [← hp]
  exact Hs.behind (L := [_, _]) h3
/-! Heard -/
def BX.heard (x : BX) (now : Int) : BX := { x with pk := IntKind.wrap .i64 (x.pk + 1), due := if 0 < x.dup.length ∨ IntKind.wrap .i64 (x.pk + 1) > 1 ∨ x.made = false then now else now + x.delay }
theorem c45 (h : Hs W (refL rr R x ++ L) w) (hd : 0 ≤ x.delay ∧ x.delay ≤ 500) (now : Int) : Calls Tryd.prog 45 #[.pointer (some ⟨rr, 0, none⟩), .int .i64 now] w (rt fun v w' => v = .int .i64 (if 0 ≤ now ∧ now ≤ 1099511627776 then 0 else 1) ∧ Hs W (refL rr R (if 0 ≤ now ∧ now ≤ 1099511627776 then x.heard now else x) ++ L) w') := by
  refine F45_ok ?_
  unfold F45
  simp only [rdP_mk, rdI_mk]
  rw [br_dec]
  refine ⟨fun h1 => by rw [if_neg (by omega), if_neg (by omega)]; exact ⟨rfl, h⟩, fun h1 => ?_⟩
  rw [br_dec]
  refine ⟨fun h2 => by rw [if_neg (by omega), if_neg (by omega)]; exact ⟨rfl, h⟩, fun h2 => ?_⟩
  have hok : 0 ≤ now ∧ now ≤ 1099511627776 := by omega
  rw [if_pos hok, if_pos hok]
  unfold F45_2
  simp only [rdP_mk, rdI_mk, nn_some, add_mk]
  refine h.ldI 0 rfl rfl (h.stc 0 rfl (by simp) fun w1 h3 => h3.ldI 0 rfl rfl (h3.ldC 0 rfl rfl ?_))
  have fin : ∀ {Kr : Value → World → Prop} (at_ : Int), 0 ≤ at_ → (∀ w', Hs W (refL rr R { x with pk := IntKind.wrap .i64 (x.pk + 1), due := at_ } ++ L) w' → Kr (.int .i64 0) w') → F45_1 Kr (.pointer (some ⟨rr, 0, none⟩)) (.int .i64 at_) w1 := by
    intro Kr at_ h0 hK
    unfold F45_1
    simp only [rdP_mk, rdI_mk, nn_some, add_mk]
    refine h3.stc 0 rfl (by simp) fun w2 h4 => h4.stc 0 rfl (by simp) fun w3 h5 => hK w3 ?_
    unfold refL
    simp only
    rw [decide_eq_true h0, if_pos h0]
    exact h5
  have ew : IntKind.wrap .i64 (now + x.delay) = now + x.delay := wrap_i64 (by omega) (by omega)
  rw [br_dec]
  refine ⟨fun h4 => fin now hok.1 fun w' h' _g => ?_, fun h4 => h3.ldI 0 rfl rfl ?_⟩
  · simp only [rdI_mk]
    intro _g
    refine ⟨trivial, ?_⟩
    unfold BX.heard
    rw [if_pos (.inl (by omega))]; exact h'
  rw [br_dec]
  refine ⟨fun h5 => fin now hok.1 fun w' h' _g => ?_, fun h5 => h3.ldB 0 rfl rfl ?_⟩
  · simp only [rdI_mk]
    intro _g
    refine ⟨trivial, ?_⟩
    unfold BX.heard
    rw [if_pos (.inr (.inl (by omega)))]; exact h'
  cases hm : x.made with
  | false =>
    rw [Bool.not_false, br_true]
    refine fin now hok.1 fun w' h' _g => ?_
    simp only [rdI_mk]
    intro _g
    refine ⟨trivial, ?_⟩
    unfold BX.heard
    rw [if_pos (.inr (.inr hm))]; exact h'
  | true =>
    rw [Bool.not_true, br_false, ew]
    refine fin _ (by omega) fun w' h' _g => ?_
    simp only [rdI_mk]
    intro _g
    refine ⟨trivial, ?_⟩
    unfold BX.heard
    rw [if_neg (by rw [hm]; rintro (h | h | h); omega; omega; cases h)]; exact h'
end
end Go.Proofs.YtccffjlahpfdaaaDoor
