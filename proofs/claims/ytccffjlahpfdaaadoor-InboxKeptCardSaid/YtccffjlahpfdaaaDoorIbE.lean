/- Own text: part of the shallow reading of the code and of the contracts that are proved over it. -/
import Derived.Test.YtccffjlahpfdaaaDoorIbD
namespace Go.Proofs.YtccffjlahpfdaaaDoor
open Go Go.Sh Go.Sp
section
variable {W w : World} {L : List HP} {bb rr : Nat} {D : BD} {R : RD} {x : BX}
/-! Heard -/
theorem heard_ok {x : BX} (ho : OkX x) (now : Int) : OkX (x.heard now) := ⟨ho.nodup, ho.sub, ho.dups, ho.d0, ho.d1⟩
theorem c21 (h : Hs W (boxL bb D x ++ L) w) (hd : 0 ≤ x.delay ∧ x.delay ≤ 500) (now : Int) : Calls Tryd.prog 21 #[.pointer (some ⟨bb, 0, none⟩), .int .i64 now] w (rt fun v w' => v = .int .i64 (if 0 ≤ now ∧ now ≤ 1099511627776 then 0 else 1) ∧ Hs W (boxL bb D (if 0 ≤ now ∧ now ≤ 1099511627776 then x.heard now else x) ++ L) w') := by
  refine F21_ok ?_
  unfold F21
  simp only [rdP_mk, rdI_mk]
  refine clr (c34 h) ⟨_, rfl, ?_⟩
  rw [Bool.not_true, br_false]
  rw [br_dec]
  refine ⟨fun h1 => by rw [if_neg (by omega), if_neg (by omega)]; exact ⟨rfl, h⟩, fun h1 => ?_⟩
  rw [br_dec]
  refine ⟨fun h2 => by rw [if_neg (by omega), if_neg (by omega)]; exact ⟨rfl, h⟩, fun h2 => ?_⟩
  have hok : 0 ≤ now ∧ now ≤ 1099511627776 := by omega
  rw [if_pos hok, if_pos hok]
  unfold F21_2
  simp only [rdP_mk, rdI_mk, nn_some, add_mk]
  refine h.ldI 0 rfl rfl (h.stc 0 rfl (by simp) fun w1 h3 => h3.ldC 0 rfl rfl ?_)
  have ew : IntKind.wrap .i64 (now + x.delay) = now + x.delay := wrap_i64 (by omega) (by omega)
  have fin : ∀ {Kn : World → Prop} (b : Bool), (∀ w', Hs W (boxL bb D { x with pk := IntKind.wrap .i64 (x.pk + 1), due := if b = true then now else now + x.delay } ++ L) w' → Kn w') → F21_1 Kn (.pointer (some ⟨bb, 0, none⟩)) (.int .i64 now) (.bool b) w1 := by
    intro Kn b hK
    unfold F21_1
    simp only [rdP_mk, rdI_mk, rdB_mk, nn_some, add_mk]
    cases b with
    | true => exact h3.stc 0 rfl (by simp) fun w2 h4 => hK w2 h4
    | false =>
      refine h3.ldI 0 rfl rfl (h3.stc 0 rfl (by simp) fun w2 h4 => hK w2 ?_)
      rw [ew] at h4
      exact h4
  have res : ∀ {b : Bool} {w' : World}, (b = true ↔ (0 < x.dup.length ∨ IntKind.wrap .i64 (x.pk + 1) > 1 ∨ x.made = false)) → Hs W (boxL bb D { x with pk := IntKind.wrap .i64 (x.pk + 1), due := if b = true then now else now + x.delay } ++ L) w' → True ∧ Hs W (boxL bb D (x.heard now) ++ L) w' := by
    intro b w' hb h'
    refine ⟨trivial, ?_⟩
    unfold BX.heard
    simp only [← hb]
    exact h'
  rw [br_dec]
  refine ⟨fun h4 => fin true fun w' h' _g => ?_, fun h4 => h3.ldI 0 rfl rfl ?_⟩
  · intro _g; exact res ⟨fun _ => .inl (by omega), fun _ => rfl⟩ h'
  rw [br_dec]
  refine ⟨fun h5 => fin true fun w' h' _g => ?_, fun h5 => h3.ldB 0 rfl rfl ?_⟩
  · intro _g; exact res ⟨fun _ => .inr (.inl (by omega)), fun _ => rfl⟩ h'
  refine fin (!x.made) fun w' h' _g => ?_
  intro _g
  refine res ⟨fun hm => .inr (.inr (by simpa using hm)), fun hm => ?_⟩ h'
  rcases hm with hm | hm | hm
  · omega
  · omega
  · rw [hm]; rfl
/-! Fix -/
def fixStep (nu : List Int) (fx : List Int) (t : Int) : List Int := if t ∉ fx ∧ t ∈ nu then fx ++ [t] else fx
def BX.fix (x : BX) (l : List Int) : BX := { x with fx := l.foldl (fixStep (nums x.cum x.S)) x.fx }
theorem fixStep_ok {x : BX} {fx : List Int} (ho : OkX { x with fx := fx }) (t : Int) : OkX { x with fx := fixStep (nums x.cum x.S) fx t } := by
  unfold fixStep
  by_cases c : t ∉ fx ∧ t ∈ nums x.cum x.S
  · rw [if_pos c]
    have hn : fx.Nodup := ho.nodup
    have hs : ∀ y ∈ fx, y ∈ nums x.cum x.S := ho.sub
    refine ⟨?_, ?_, ho.dups, ho.d0, ho.d1⟩
    · show (fx ++ [t]).Nodup
      rw [List.nodup_append]
      exact ⟨hn, by simp, fun a ha b hb => by simp at hb; subst hb; rintro rfl; exact c.1 ha⟩
    · intro y hy
      rcases List.mem_append.1 hy with hy | hy
      · exact hs y hy
      · simp at hy; subst hy; exact c.2
  · rw [if_neg c]; exact ho
theorem fixFold_ok {x : BX} : ∀ (l : List Int) {fx : List Int}, OkX { x with fx := fx } → OkX { x with fx := l.foldl (fixStep (nums x.cum x.S)) fx }
  | [], _, h => h
  | t :: l, _, h => fixFold_ok l (fixStep_ok h t)
theorem fix_ok {x : BX} (ho : OkX x) (l : List Int) : OkX (x.fix l) := fixFold_ok (x := x) l ho
theorem fixStep_len (nu fx : List Int) (t : Int) : (fixStep nu fx t).length = fx.length ∨ (fixStep nu fx t).length = fx.length + 1 := by
  unfold fixStep
  split
  · right; simp
  · left; rfl
theorem fxF_snoc (fx : List Int) (t : Int) : fxF (fx ++ [t]) = updF (fxF fx) t (some 1) := by
  funext k
  unfold fxF updF
  by_cases e : k = t
  · subst e; simp
  · simp [e]
theorem fold_take {α β : Type} (f : β → α → β) (b : β) {l : List α} {j : Nat} {y : α} (h : l[j]? = some y) : (l.take (j + 1)).foldl f b = f ((l.take j).foldl f b) y := by
  rw [List.take_add_one, h]; simp
theorem c12 (ht : TB W) (h : Hs W (boxL bb D x ++ L) w) (ho : OkX x) {l : List Int} {la : Option Addr} {lc : Nat} (hll : l.length ≤ 281474976710656) (hl : ∀ fx1 w1, Hs W (boxL bb D { x with fx := fx1 } ++ L) w1 → Rd w1 la (nV l)) :
    Calls Tryd.prog 12 #[.pointer (some ⟨bb, 0, none⟩), .slice la l.length lc] w (rt fun v w' => v = .int .i64 (((x.fix l).fx.length : Int) - x.fx.length) ∧ Hs W (boxL bb D (x.fix l) ++ L) w') := by
  have hr := box_RngX h
  refine F12_ok ?_
  unfold F12
  simp only [rdP_mk, rdC_mk]
  refine clr (c34 h) ⟨_, rfl, ?_⟩
  rw [Bool.not_true, br_false]
  have loop : ∀ (i j : Nat) (fx : List Int) (w1 : World) (k : Nat) (K0 : Value → World → Prop), j + i = l.length → fx = (l.take j).foldl (fixStep (nums x.cum x.S)) x.fx → x.fx.length ≤ fx.length → OkX { x with fx := fx } → Hs W (boxL bb D { x with fx := fx } ++ L) w1 → i < k →
      (∀ w', Hs W (boxL bb D (x.fix l) ++ L) w' → K0 (.int .i64 (((x.fix l).fx.length : Int) - x.fx.length)) w') →
      F12_2 K0 k (.pointer (some ⟨bb, 0, none⟩)) (.int .i64 ((fx.length : Int) - x.fx.length)) (.slice la l.length lc) (.int .i64 (l.length : Int)) (.int .i64 (j : Int)) w1 := by
    intro i
    induction i with
    | zero =>
      intro j fx w1 k K0 hj hf hge hok hw hk hK
      obtain ⟨k, rfl⟩ : ∃ j, k = j + 1 := ⟨k - 1, by omega⟩
      show F12_2B _ _ _ _ _ _ _ _
      unfold F12_2B
      simp only [rdP_mk, rdC_mk, rdI_mk]
      rw [br_dec]
      have e : fx = (x.fix l).fx := by rw [hf, List.take_of_length_le (by omega)]; rfl
      refine ⟨fun h => by exfalso; omega, fun _ => ?_⟩
      rw [e]
      refine hK w1 ?_
      have : (x.fix l) = { x with fx := fx } := by rw [e]; rfl
      rw [this]; exact hw
    | succ i ih =>
      intro j fx w1 k K0 hj hf hge hok hw hk hK
      obtain ⟨k, rfl⟩ : ∃ j, k = j + 1 := ⟨k - 1, by omega⟩
      show F12_2B _ _ _ _ _ _ _ _
      unfold F12_2B
      simp only [rdP_mk, rdC_mk, rdI_mk]
      rw [br_dec]
      refine ⟨fun _ => ?_, fun h => by exfalso; omega⟩
      obtain ⟨t, hy⟩ : ∃ t, l[j]? = some t := ⟨l[j]'(by omega), by simp⟩
      have hrd := hl _ _ hw
      obtain ⟨ad, hod⟩ := hrd.some (by rw [nV_length]; omega)
      subst hod
      refine ixS_of (by omega) (by omega) ?_
      rw [Int.toNat_natCast, Nat.mul_one]
      refine ldI_c (hrd.at (nV_at hy)) ?_
      have e1 : IntKind.wrap .i64 ((j : Int) + 1) = ((j + 1 : Nat) : Int) := by rw [wrap_i64 (by omega) (by omega)]; omega
      have hlen : fx.length ≤ 65534 := hok.len (x := { x with fx := fx }) ⟨hr.rng, hr.c0, hr.c1, hr.rise⟩
      have hn1 := fold_take (fixStep (nums x.cum x.S)) x.fx hy
      rw [← hf] at hn1
      have skip : ∀ {w2 : World}, ¬ (t ∉ fx ∧ t ∈ nums x.cum x.S) → Hs W (boxL bb D { x with fx := fx } ++ L) w2 → F12_2 K0 k (.pointer (some ⟨bb, 0, none⟩)) (.int .i64 ((fx.length : Int) - x.fx.length)) (.slice (some ad) l.length lc) (.int .i64 (l.length : Int)) (.int .i64 ((j + 1 : Nat) : Int)) w2 := by
        intro w2 hc h2
        refine ih (j + 1) fx w2 k K0 (by omega) ?_ hge hok h2 (by omega) hK
        rw [hn1]; unfold fixStep; rw [if_neg hc]
      refine clr (c39 hw t) ⟨_, rfl, ?_⟩
      rw [br_iff]
      refine ⟨fun hb => ?_, fun hb => ?_⟩
      · have hnf : t ∉ fx := by simpa using hb
        refine cl (c40 ht hw t) ?_
        rintro _ w2 ⟨rfl, h2⟩
        refine ⟨_, rfl, ?_⟩
        unfold F12_1
        simp only [rdP_mk, rdC_mk, rdI_mk, rdB_mk, nn_some, add_mk]
        rw [br_dec]
        refine ⟨fun hc => h2.ldM 0 rfl rfl ?_, fun hc _g => ?_⟩
        · obtain ⟨o, q1, q2⟩ := store_int (k := t) (v := 1) um78 um22 (h2.map 2 rfl)
          refine ⟨_, q1, fun _g => ?_⟩
          have e2 : IntKind.wrap .i64 ((fx.length : Int) - x.fx.length + 1) = (((fixStep (nums x.cum x.S) fx t).length : Nat) : Int) - x.fx.length := by
            unfold fixStep; rw [if_pos ⟨hnf, hc⟩, List.length_append, List.length_singleton, wrap_i64 (by omega) (by omega)]; omega
          rw [e1, e2]
          refine ih (j + 1) _ _ k K0 (by omega) hn1.symm (by rcases fixStep_len (nums x.cum x.S) fx t with h | h <;> omega) (fixStep_ok hok t) ?_ (by omega) hK
          have h3 := h2.map_turn 2 rfl ((Fr.refl w2).sb fun _ => rfl) q2
          rw [← fxF_snoc] at h3
          have e3 : fixStep (nums x.cum x.S) fx t = fx ++ [t] := by unfold fixStep; rw [if_pos ⟨hnf, hc⟩]
          rw [e3]
          exact h3
        · rw [e1]
          exact skip (fun h => hc h.2) h2
      · have hf' : t ∈ fx := by simpa using hb
        unfold F12_1
        simp only [rdP_mk, rdC_mk, rdI_mk, rdB_mk, br_false]
        intro _g
        rw [e1]
        exact skip (fun h => h.1 hf') hw
  have e0 : ((x.fx.length : Nat) : Int) - x.fx.length = 0 := by omega
  have key := loop l.length 0 x.fx w (l.length + 1)
  rw [e0] at key
  exact ⟨l.length + 1, key _ (by omega) (by simp) (Nat.le_refl _) ho h (by omega) fun w' h' _g => by simp only [rdI_mk]; exact ⟨trivial, h'⟩⟩
theorem c13 (h : Hs W (refL rr R x ++ L) w) (ho : OkX x) {l : List Int} {la : Option Addr} {lc : Nat} (hx : rngL l) (hll : l.length ≤ 281474976710656) (hl : ∀ R1 fx1 w1, Hs W (refL rr R1 { x with fx := fx1 } ++ L) w1 → Rd w1 la (nV l)) :
    Calls Tryd.prog 13 #[.pointer (some ⟨rr, 0, none⟩), .slice la l.length lc] w (rt fun v w' => v = .int .i64 (((x.fix l).fx.length : Int) - x.fx.length) ∧ ∃ R', Hs W (refL rr R' (x.fix l) ++ L) w') := by
  have hr := ref_RngX h
  refine F13_ok ?_
  unfold F13
  simp only [rdP_mk, rdC_mk]
  have loop : ∀ (i j : Nat) (fx : List Int) (R1 : RD) (w1 : World) (k : Nat) (K0 : Value → World → Prop), j + i = l.length → fx = (l.take j).foldl (fixStep (nums x.cum x.S)) x.fx → x.fx.length ≤ fx.length → OkX { x with fx := fx } → Hs W (refL rr R1 { x with fx := fx } ++ L) w1 → i < k →
      (∀ w' R', Hs W (refL rr R' (x.fix l) ++ L) w' → K0 (.int .i64 (((x.fix l).fx.length : Int) - x.fx.length)) w') →
      F13_2 K0 k (.pointer (some ⟨rr, 0, none⟩)) (.slice la l.length lc) (.int .i64 ((fx.length : Int) - x.fx.length)) (.int .i64 (j : Int)) w1 := by
    intro i
    induction i with
    | zero =>
      intro j fx R1 w1 k K0 hj hf hge hok hw hk hK
      obtain ⟨k, rfl⟩ : ∃ j, k = j + 1 := ⟨k - 1, by omega⟩
      show F13_2B _ _ _ _ _ _ _
      unfold F13_2B
      simp only [rdP_mk, rdC_mk, rdI_mk]
      rw [br_dec]
      have e : fx = (x.fix l).fx := by rw [hf, List.take_of_length_le (by omega)]; rfl
      refine ⟨fun h => by exfalso; omega, fun _ => ?_⟩
      rw [e]
      refine hK w1 R1 ?_
      have : (x.fix l) = { x with fx := fx } := by rw [e]; rfl
      rw [this]; exact hw
    | succ i ih =>
      intro j fx R1 w1 k K0 hj hf hge hok hw hk hK
      obtain ⟨k, rfl⟩ : ∃ j, k = j + 1 := ⟨k - 1, by omega⟩
      show F13_2B _ _ _ _ _ _ _
      unfold F13_2B
      simp only [rdP_mk, rdC_mk, rdI_mk]
      rw [br_dec]
      refine ⟨fun _ => ?_, fun h => by exfalso; omega⟩
      obtain ⟨t, hy⟩ : ∃ t, l[j]? = some t := ⟨l[j]'(by omega), by simp⟩
      have htr := hx t (List.mem_of_getElem? hy)
      have hrd := hl _ _ _ hw
      obtain ⟨ad, hod⟩ := hrd.some (by rw [nV_length]; omega)
      subst hod
      refine ixS_of (by omega) (by omega) ?_
      rw [Int.toNat_natCast, Nat.mul_one]
      refine ldI_c (hrd.at (nV_at hy)) (clr (c41 hw htr.1 htr.2) ⟨_, rfl, ?_⟩)
      have e1 : IntKind.wrap .i64 ((j : Int) + 1) = ((j + 1 : Nat) : Int) := by rw [wrap_i64 (by omega) (by omega)]; omega
      have hlen : fx.length ≤ 65534 := hok.len (x := { x with fx := fx }) ⟨hr.rng, hr.c0, hr.c1, hr.rise⟩
      have hn1 := fold_take (fixStep (nums x.cum x.S)) x.fx hy
      rw [← hf] at hn1
      have skip : ¬ (t ∉ fx ∧ t ∈ nums x.cum x.S) → F13_2 K0 k (.pointer (some ⟨rr, 0, none⟩)) (.slice (some ad) l.length lc) (.int .i64 ((fx.length : Int) - x.fx.length)) (.int .i64 ((j + 1 : Nat) : Int)) w1 := by
        intro hc
        refine ih (j + 1) fx R1 w1 k K0 (by omega) ?_ hge hok hw (by omega) hK
        rw [hn1]; unfold fixStep; rw [if_neg hc]
      rw [br_dec]
      refine ⟨fun hc => ?_, fun hc => ?_⟩
      · refine ixS_of (by omega) (by omega) ?_
        rw [Int.toNat_natCast, Nat.mul_one]
        refine ldI_c (hrd.at (nV_at hy)) (clr (c42 hw (by simp only; omega) t) ⟨_, rfl, ?_⟩)
        unfold F13_1 drw
        simp only [rdP_mk, rdC_mk, rdI_mk, rdB_mk, nn_some, add_mk]
        rw [br_iff]
        refine ⟨fun hb => ?_, fun hb _g => ?_⟩
        · have hnf : t ∉ fx := by simpa using hb
          have h2 := hw.drew
          generalize w1.drew = w2 at h2 ⊢
          have hrd2 := hl _ _ _ h2
          refine h2.ldC 0 rfl rfl ?_
          refine ixS_of (by omega) (by omega) ?_
          rw [Int.toNat_natCast, Nat.mul_one]
          refine ldI_c (hrd2.at (nV_at hy)) ?_
          unfold alc
          refine ⟨Pres.of_Same ((Fr.refl w2).alloc _), ?_⟩
          refine h2.push E30 2 rfl (news := #[_]) rfl (by simp [Value.oneCell']) (by simp only; omega) (by simp only; omega) ?_
          intro a' c' w3 h3
          refine h3.stc 0 rfl (by simp) fun w4 h4 _g => ?_
          have e2 : IntKind.wrap .i64 ((fx.length : Int) - x.fx.length + 1) = (((fixStep (nums x.cum x.S) fx t).length : Nat) : Int) - x.fx.length := by
            unfold fixStep; rw [if_pos ⟨hnf, hc⟩, List.length_append, List.length_singleton, wrap_i64 (by omega) (by omega)]; omega
          rw [e1, e2]
          refine ih (j + 1) _ { R1 with fa := a', fc := c' } _ k K0 (by omega) hn1.symm (by rcases fixStep_len (nums x.cum x.S) fx t with h | h <;> omega) (fixStep_ok hok t) ?_ (by omega) hK
          have e3 : fixStep (nums x.cum x.S) fx t = fx ++ [t] := by unfold fixStep; rw [if_pos ⟨hnf, hc⟩]
          rw [e3]
          unfold refL
          simp only [List.length_append, List.length_singleton, nV_snoc]
          exact h4
        · have hf' : t ∈ fx := by simpa using hb
          rw [e1]
          exact skip (fun h => h.1 hf')
      · unfold F13_1
        simp only [rdP_mk, rdC_mk, rdI_mk, rdB_mk, br_false]
        intro _g
        rw [e1]
        exact skip (fun h => hc h.2)
  have e0 : ((x.fx.length : Nat) : Int) - x.fx.length = 0 := by omega
  have key := loop l.length 0 x.fx R w (l.length + 1)
  rw [e0] at key
  exact ⟨l.length + 1, key _ (by omega) (by simp) (Nat.le_refl _) ho h (by omega) fun w' R' h' _g => by simp only [rdI_mk]; exact ⟨trivial, R', h'⟩⟩
/-! moved -/
def mv (cum : Int) (at_ : List Int) : List Int := at_.map fun k => (cum + k) % 4294967296
theorem mv_rng (cum : Int) (at_ : List Int) : rngL (mv cum at_) := fun y hy => by
  obtain ⟨d, _, rfl⟩ := List.mem_map.1 hy
  omega
theorem c43 {cum : Int} (h0 : 0 ≤ cum) (h1 : cum < 4294967296) {X : List Int} {a : Option Addr} {c : Nat} (hr : Rd w a (nV X)) (hx : rngL X) (hl : X.length * 4 ≤ 140737488351232) : Calls Tryd.prog 43 #[.int .u32 cum, .slice a X.length c] w (rt fun v w' => ∃ a' c', v = .slice a' X.length c' ∧ Own w' w.heap.size 22 1 a' X.length c' (nV (mv cum X)) ∧ Same w w') := by
  refine F43_ok ?_
  unfold F43
  simp only [rdC_mk, rdI_mk]
  have loop : ∀ (i j : Nat) (oa : Option Addr) (oc : Nat) (w1 : World) (k : Nat) (K0 : Value → World → Prop), j + i = X.length → Hs w [slP 22 1 oa j oc (nV (mv cum (X.take j)))] w1 → i < k → (∀ w' a' c', Hs w [slP 22 1 a' X.length c' (nV (mv cum X))] w' → K0 (.slice a' X.length c') w') →
      F43_1 K0 k (.int .u32 cum) (.slice a X.length c) (.slice oa j oc) (.int .i64 (j : Int)) w1 := by
    intro i
    induction i with
    | zero =>
      intro j oa oc w1 k K0 hj hw hk hK
      obtain ⟨k, rfl⟩ : ∃ j, k = j + 1 := ⟨k - 1, by omega⟩
      show F43_1B _ _ _ _ _ _ _
      unfold F43_1B
      simp only [rdC_mk, rdI_mk]
      rw [br_dec]
      have : j = X.length := by omega
      subst this
      rw [List.take_length] at hw
      exact ⟨fun h => by exfalso; omega, fun _ => hK _ _ _ hw⟩
    | succ i ih =>
      intro j oa oc w1 k K0 hj hw hk hK
      obtain ⟨k, rfl⟩ : ∃ j, k = j + 1 := ⟨k - 1, by omega⟩
      show F43_1B _ _ _ _ _ _ _
      unfold F43_1B
      simp only [rdC_mk, rdI_mk]
      rw [br_dec]
      refine ⟨fun _ => ?_, fun h => by exfalso; omega⟩
      obtain ⟨y, hy⟩ : ∃ y, X[j]? = some y := ⟨X[j]'(by omega), by simp⟩
      have hyr := hx y (List.mem_of_getElem? hy)
      have hr1 := hw.rd_old hr
      obtain ⟨ad, hod⟩ := hr1.some (by rw [nV_length]; omega)
      subst hod
      refine ixS_of (by omega) (by omega) ?_
      rw [Int.toNat_natCast, Nat.mul_one]
      refine ldI_c (hr1.at (nV_at hy)) (clr (c9 cum y w1 h0 h1 hyr.1 hyr.2) ⟨_, rfl, ?_⟩)
      have e1 : IntKind.wrap .i64 ((j : Int) + 1) = ((j + 1 : Nat) : Int) := by rw [wrap_i64 (by omega) (by omega)]; omega
      unfold alc
      refine hw.push E30 0 rfl (news := #[_]) rfl (by simp [Value.oneCell']) (by omega) (by omega) ?_
      intro a' c' w3 h3
      rw [e1]
      refine ih (j + 1) a' c' w3 k K0 (by omega) ?_ (by omega) hK
      have e2 : nV (mv cum (X.take (j + 1))) = nV (mv cum (X.take j)) ++ [.int .u32 ((cum + y) % 4294967296)] := by
        rw [List.take_add_one, hy]; simp [nV, mv]
      rw [e2]
      exact h3
  refine ⟨X.length + 1, loop X.length 0 none 0 w _ _ (by omega) ((Hs.start w).nil 22 1) (by omega) fun w' a' c' h' _g => ?_⟩
  simp only [rdC_mk]
  exact ⟨a', c', rfl, h'.own 0 rfl, h'.1⟩
end
end Go.Proofs.YtccffjlahpfdaaaDoor
