/- Own text: part of the shallow reading of the code and of the contracts that are proved over it. -/
import Derived.Test.YtccffjlahpfdaaaDoorIbC
namespace Go.Proofs.YtccffjlahpfdaaaDoor
open Go Go.Sh Go.Sp
/-! what holds of a box -/
structure OkX (x : BX) : Prop where
  nodup : x.fx.Nodup
  sub : ∀ y ∈ x.fx, y ∈ nums x.cum x.S
  dups : x.dup.length ≤ 4096
  d0 : 0 ≤ x.delay
  d1 : x.delay ≤ 500
theorem nodup_len : ∀ {l m : List Int}, l.Nodup → (∀ y ∈ l, y ∈ m) → l.length ≤ m.length
  | [], _, _, _ => Nat.zero_le _
  | a :: l, m, hn, hs => by
    rw [List.nodup_cons] at hn
    have ha := hs a (by simp)
    have h1 := nodup_len (l := l) (m := m.erase a) hn.2 fun y hy => by
      have hne : y ≠ a := fun e => hn.1 (e ▸ hy)
      exact (List.mem_erase_of_ne hne).2 (hs y (List.mem_cons_of_mem _ hy))
    rw [List.length_erase_of_mem ha] at h1
    have := List.length_pos_of_mem ha
    rw [List.length_cons]
    omega
structure RngX (x : BX) : Prop where
  rng : ∀ d ∈ x.S, 2 ≤ d ∧ d ≤ 65535
  c0 : 0 ≤ x.cum
  c1 : x.cum < 4294967296
  rise : x.S.Pairwise (· < ·)
theorem RngX.len {x : BX} (h : RngX x) : x.S.length ≤ 65534 := by
  have := rising_length h.rise (a := 2) (b := 65536) (fun d hd => by have := h.rng d hd; omega)
  omega
theorem OkX.len {x : BX} (h : OkX x) (hr : RngX x) : x.fx.length ≤ 65534 := by
  have h1 := nodup_len h.nodup h.sub
  rw [nums_length] at h1
  have := hr.len
  omega
theorem nums_rng {cum : Int} {S : List Nat} : rngL (nums cum S) := fun y hy => by
  obtain ⟨d, _, rfl⟩ := mem_nums.1 hy
  omega
theorem OkX.rngL {x : BX} (h : OkX x) : rngL x.fx := fun y hy => nums_rng y (h.sub y hy)
/-! coming -/
def runR (cum : Int) (S : List Nat) (t : Int) : Nat := if sd cum t = 1 then runS S else 0
theorem addC_run {cum t : Int} {S : List Nat} (h0 : 0 ≤ cum) (h1 : cum < 4294967296) : addC cum S t = (cum + (runR cum S t : Int)) % 4294967296 := by
  unfold addC runR
  split
  · rfl
  · simp; omega
theorem runS_le {S : List Nat} (h : S.Pairwise (· < ·)) (hr : ∀ d ∈ S, 2 ≤ d ∧ d ≤ 65535) : runS S ≤ 65535 := by
  obtain ⟨h1, h2, _⟩ := runS_spec h fun d hd => (hr d hd).1
  rcases Nat.lt_or_ge 1 (runS S) with h3 | h3
  · exact (hr _ (h2 _ h3 (Nat.le_refl _))).2
  · omega
theorem runR_le {cum t : Int} {S : List Nat} (h : S.Pairwise (· < ·)) (hr : ∀ d ∈ S, 2 ≤ d ∧ d ≤ 65535) : runR cum S t ≤ 65535 := by
  unfold runR
  split
  · exact runS_le h hr
  · omega
def BX.come (x : BX) (t : Int) : BX := if (addR x.cum x.S t).2 ≠ 0 then x else { x with cum := addC x.cum x.S t, S := addS x.cum x.S t, dup := if (addR x.cum x.S t).1 = false ∧ x.dup.length < 4096 then x.dup ++ [t] else x.dup, fx := x.fx.filter fun y => decide (sd (addC x.cum x.S t) y > 0) }
def delR (cum : Int) (f : Int → Option Int) : Nat → Int → Option Int
  | 0 => f
  | j + 1 => updF (delR cum f j) ((cum + ((j + 1 : Nat) : Int)) % 4294967296) none
theorem delR_eq {cum : Int} {f : Int → Option Int} : ∀ (r : Nat) (k : Int), ((∃ i : Nat, 1 ≤ i ∧ i ≤ r ∧ k = (cum + (i : Int)) % 4294967296) → delR cum f r k = none) ∧ ((¬ ∃ i : Nat, 1 ≤ i ∧ i ≤ r ∧ k = (cum + (i : Int)) % 4294967296) → delR cum f r k = f k)
  | 0, k => ⟨fun ⟨i, h1, h2, _⟩ => by omega, fun _ => rfl⟩
  | r + 1, k => by
    obtain ⟨h1, h2⟩ := delR_eq (cum := cum) (f := f) r k
    unfold delR updF
    by_cases e : k = (cum + ((r + 1 : Nat) : Int)) % 4294967296
    · rw [if_pos e]
      exact ⟨fun _ => rfl, fun h => absurd ⟨r + 1, by omega, Nat.le_refl _, e⟩ h⟩
    · rw [if_neg e]
      refine ⟨fun ⟨i, a, b, c⟩ => h1 ⟨i, a, ?_, c⟩, fun h => h2 fun ⟨i, a, b, c⟩ => h ⟨i, a, by omega, c⟩⟩
      rcases Nat.lt_or_eq_of_le b with h | h
      · omega
      · subst h; exact absurd c e
theorem del_fx {x : BX} {t : Int} (ho : OkX x) (hr : RngX x) : delR x.cum (fxF x.fx) (runR x.cum x.S t) = fxF (x.fx.filter fun y => decide (sd (addC x.cum x.S t) y > 0)) := by
  have hle := runR_le (cum := x.cum) (t := t) hr.rise hr.rng
  rw [addC_run hr.c0 hr.c1]
  generalize runR x.cum x.S t = r at hle
  funext k
  obtain ⟨h1, h2⟩ := delR_eq (cum := x.cum) (f := fxF x.fx) r k
  by_cases hk : k ∈ x.fx
  · obtain ⟨d, hd, e⟩ := mem_nums.1 (ho.sub k hk)
    have hdr := hr.rng d hd
    have hsd : sd ((x.cum + (r : Int)) % 4294967296) k = (d : Int) - r := by rw [e]; exact sd_off (by omega) (by omega) (by omega) (by omega)
    by_cases hdl : d ≤ r
    · rw [h1 ⟨d, by omega, hdl, e⟩]
      unfold fxF
      rw [if_neg (by rw [List.mem_filter, hsd]; rintro ⟨_, h⟩; simp at h; omega)]
    · rw [h2 (fun ⟨i, a, b, c⟩ => by rw [e] at c; omega)]
      unfold fxF
      rw [if_pos hk, if_pos (by rw [List.mem_filter, hsd]; exact ⟨hk, by simp; omega⟩)]
  · have e0 : fxF x.fx k = none := by unfold fxF; rw [if_neg hk]
    have e1 : fxF (x.fx.filter fun y => decide (sd ((x.cum + (r : Int)) % 4294967296) y > 0)) k = none := by
      unfold fxF; rw [if_neg (by rw [List.mem_filter]; exact fun h => hk h.1)]
    rw [e1]
    rcases Classical.em (∃ i : Nat, 1 ≤ i ∧ i ≤ r ∧ k = (x.cum + (i : Int)) % 4294967296) with h | h
    · exact h1 h
    · rw [h2 h, e0]
theorem come_ok {x : BX} (ho : OkX x) (hr : RngX x) (t : Int) : OkX (x.come t) := by
  unfold BX.come
  split
  · exact ho
  · have hle := runR_le (cum := x.cum) (t := t) hr.rise hr.rng
    refine ⟨ho.nodup.filter _, fun y hy => ?_, ?_, ho.d0, ho.d1⟩
    · simp only at hy ⊢
      obtain ⟨hy1, hy2⟩ := List.mem_filter.1 hy
      obtain ⟨d, hd, e⟩ := mem_nums.1 (ho.sub y hy1)
      have hdr := hr.rng d hd
      rw [addC_run hr.c0 hr.c1] at hy2
      have hsd : sd ((x.cum + (runR x.cum x.S t : Int)) % 4294967296) y = (d : Int) - (runR x.cum x.S t) := by rw [e]; exact sd_off (by omega) (by omega) (by omega) (by omega)
      rw [hsd] at hy2
      simp at hy2
      rw [mem_nums]
      by_cases h1 : sd x.cum t = 1
      · have er : runR x.cum x.S t = runS x.S := by unfold runR; rw [if_pos h1]
        rw [er] at hy2
        refine ⟨d - runS x.S, ?_, ?_⟩
        · unfold addS; rw [if_pos h1, mem_shift]; exact ⟨by omega, by rw [Nat.sub_add_cancel (by omega)]; exact hd⟩
        · unfold addC; rw [if_pos h1, e]; omega
      · refine ⟨d, ?_, ?_⟩
        · unfold addS; rw [if_neg h1]; split
          · exact mem_ins.2 (.inr hd)
          · exact hd
        · unfold addC; rw [if_neg h1]; exact e
    · simp only
      split
      · rw [List.length_append, List.length_singleton]; omega
      · exact ho.dups
section
variable {W w : World} {L : List HP} {bb rr : Nat} {D : BD} {R : RD} {x : BX}
theorem box_RngX (h : Hs W (boxL bb D x ++ L) w) : RngX x := by
  obtain ⟨h1, h2, h3, h4⟩ := box_rng h
  exact ⟨h1, h2, h3, h4⟩
theorem ref_RngX (h : Hs W (refL rr R x ++ L) w) : RngX x := by
  obtain ⟨h1, h2, h3, h4⟩ := ref_rng h
  exact ⟨h1, h2, h3, h4⟩
def boxG (bb : Nat) (D : BD) (x : BX) (f : Int → Option Int) : List HP := [pt bb (.cells #[.pointer (some ⟨D.s, 0, none⟩), .map (some D.m), .slice D.a x.dup.length D.c, .int .i64 x.delay, .bool x.nr, .int .i64 x.pk, .bool x.made, .int .i64 x.due] 80 (0, 0)), setP D.s x.cum x.S, mapP .u32 .i64 D.m f, slP 22 1 D.a x.dup.length D.c (nV x.dup)]
theorem c10_1 {cum : Int} {f : Int → Option Int} {b : Bool} {K0 : Value → World → Prop} (h0 : 0 ≤ cum) (h1 : cum < 4294967296) {r : Nat} (hr : r ≤ 65535) (hx : x.cum = (cum + (r : Int)) % 4294967296)
    (hK : ∀ w', Hs W (boxG bb D x (delR cum f r) ++ L) w' → K0 (.bool b) w') : ∀ (i j k : Nat) (w : World), j + i = r → i < k → Hs W (boxG bb D x (delR cum f j) ++ L) w →
    F10_1 K0 k (.pointer (some ⟨bb, 0, none⟩)) (.bool b) (.int .u32 ((cum + (j : Int)) % 4294967296)) w := by
  intro i
  induction i with
  | zero =>
    intro j k w hj hk hw
    obtain ⟨k, rfl⟩ : ∃ j, k = j + 1 := ⟨k - 1, by omega⟩
    show F10_1B _ _ _ _ _ _
    unfold F10_1B
    simp only [rdP_mk, rdB_mk, rdI_mk, nn_some, add_mk]
    have : j = r := by omega
    subst this
    obtain ⟨m, hm, _⟩ := Hs.setR hw 1 rfl
    refine hw.ldP 0 rfl rfl (clr (c35 hm) ⟨_, rfl, ?_⟩)
    rw [hx, br_iff]
    exact ⟨fun h => by simp at h, fun _ => hK w hw⟩
  | succ i ih =>
    intro j k w hj hk hw
    obtain ⟨k, rfl⟩ : ∃ j, k = j + 1 := ⟨k - 1, by omega⟩
    show F10_1B _ _ _ _ _ _
    unfold F10_1B
    simp only [rdP_mk, rdB_mk, rdI_mk, nn_some, add_mk]
    obtain ⟨m, hm, _⟩ := Hs.setR hw 1 rfl
    refine hw.ldP 0 rfl rfl (clr (c35 hm) ⟨_, rfl, ?_⟩)
    rw [hx, br_iff]
    have e1 : IntKind.wrap .u32 ((cum + (j : Int)) % 4294967296 + 1) = (cum + ((j + 1 : Nat) : Int)) % 4294967296 := by rw [wrap_u32_mod]; omega
    refine ⟨fun _ => hw.ldM 0 rfl rfl ?_, fun h => ?_⟩
    · rw [e1]
      obtain ⟨o, q1, q2⟩ := delete_int (ats := #[78, 22]) (ty := 0) (k := (cum + ((j + 1 : Nat) : Int)) % 4294967296) rfl um78 um22 (hw.map 2 rfl)
      refine ⟨_, q1, ih (j + 1) k _ (by omega) (by omega) ?_⟩
      exact hw.map_turn 2 rfl ((Fr.refl w).sb fun _ => rfl) q2
    · exfalso
      have : (cum + (j : Int)) % 4294967296 = (cum + (r : Int)) % 4294967296 := by simpa using h
      omega
theorem c10_2 {Kn : Value → Value → Value → World → Prop} {n3 : Int} {b4 : Bool} (h : Hs W (boxL bb D x ++ L) w) (hl : x.dup.length ≤ 4096) (t : Int) (b5 : Bool)
    (hK : ∀ w' D', Hs W (boxL bb D' { x with dup := if b5 = true then x.dup ++ [t] else x.dup } ++ L) w' → Kn (.pointer (some ⟨bb, 0, none⟩)) (.int .u32 n3) (.bool b4) w') :
    F10_2 Kn (.pointer (some ⟨bb, 0, none⟩)) (.int .u32 t) (.int .u32 n3) (.bool b4) (.bool b5) w := by
  unfold F10_2
  simp only [rdP_mk, rdB_mk, rdI_mk, nn_some, add_mk]
  cases b5 with
  | false => exact hK w D h
  | true =>
    refine h.ldC 0 rfl rfl ?_
    unfold alc
    refine h.push E30 3 rfl (news := #[_]) rfl (by simp [Value.oneCell']) (by omega) (by omega) ?_
    intro a' c' w3 h3
    refine h3.stc 0 rfl (by simp) fun w4 h4 => hK w4 { D with a := a', c := c' } ?_
    simp only [if_true]
    unfold boxL
    simp only [List.length_append, List.length_singleton, nV_snoc]
    exact h4
theorem c10 (ht : TB W) (h : Hs W (boxL bb D x ++ L) w) (ho : OkX x) (t : Int) : Calls Tryd.prog 10 #[.pointer (some ⟨bb, 0, none⟩), .int .u32 t] w (rt fun v w' => v = .tuple #[.bool (addR x.cum x.S t).1, .int .i64 (addR x.cum x.S t).2] ∧ ∃ D', Hs W (boxL bb D' (x.come t) ++ L) w') := by
  have hr := box_RngX h
  refine F10_ok ?_
  unfold F10
  simp only [rdP_mk, rdI_mk]
  refine clr (c34 h) ⟨_, rfl, ?_⟩
  simp only [Bool.not_true, br_false, nn_some, add_mk]
  obtain ⟨m, hm, k⟩ := box_open h
  refine h.ldP 0 rfl rfl (clr (c35 hm) ⟨_, rfl, ?_⟩)
  refine h.ldP 0 rfl rfl (cl (c36 (Hs.tb h ht) hm t) ?_)
  rintro _ w1 ⟨rfl, m', q1, q2, q3⟩
  refine ⟨_, _, rfl, ?_⟩
  have h1 := k q1 q2 q3
  rw [br_iff]
  refine ⟨fun he => ?_, fun he => ?_⟩
  · have he : (addR x.cum x.S t).2 ≠ 0 := by simpa using he
    have e1 : (addR x.cum x.S t).1 = false := by
      revert he; unfold addR; split
      · simp
      · split
        · simp
        · split <;> simp
    have e2 : addC x.cum x.S t = x.cum ∧ addS x.cum x.S t = x.S := by
      revert he; unfold addR addC addS; split
      · simp
      · rename_i h2; split
        · rename_i h3; intro _; rw [if_neg (by omega), if_neg (by omega), if_neg (by omega)]; exact ⟨rfl, rfl⟩
        · split <;> simp
    rw [e1]
    refine ⟨rfl, D, ?_⟩
    unfold BX.come
    rw [if_pos he]
    rw [e2.1, e2.2] at h1
    exact h1
  · have he : (addR x.cum x.S t).2 = 0 := by simpa using he
    rw [he]
    have fin : ∀ {Kr : Value → Value → World → Prop} {D1 : BD} {dup' : List Int} {w2 : World}, dup' = (if (addR x.cum x.S t).1 = false ∧ x.dup.length < 4096 then x.dup ++ [t] else x.dup) → Hs W (boxL bb D1 { x with cum := addC x.cum x.S t, S := addS x.cum x.S t, dup := dup' } ++ L) w2 →
        (∀ w' D', Hs W (boxL bb D' (x.come t) ++ L) w' → Kr (.bool (addR x.cum x.S t).1) (.int .i64 0) w') → F10_3 Kr (.pointer (some ⟨bb, 0, none⟩)) (.int .u32 x.cum) (.bool (addR x.cum x.S t).1) w2 := by
      intro Kr D1 dup' w2 hd h2 hK
      unfold F10_3
      simp only [rdP_mk, rdB_mk, rdI_mk]
      have hle := runR_le (cum := x.cum) (t := t) hr.rise hr.rng
      have key := c10_1 (x := { x with cum := addC x.cum x.S t, S := addS x.cum x.S t, dup := dup' }) (D := D1) (L := L) (W := W) (bb := bb) (f := fxF x.fx) (b := (addR x.cum x.S t).1) (K0 := fun y7_3 w5 => ∀ _g6 : Tm, rdB y7_3 fun b7 => Kr (.bool b7) (.int .i64 0) w5) hr.c0 hr.c1 hle (addC_run hr.c0 hr.c1) (fun w' h' _g => by
        simp only [rdB_mk]
        refine hK w' D1 ?_
        rw [del_fx ho hr] at h'
        unfold BX.come
        rw [if_neg (by rw [he]; simp), ← hd]
        exact h') (runR x.cum x.S t) 0 (runR x.cum x.S t + 1) w2 (by omega) (by omega) h2
      have e0 : (x.cum + ((0 : Nat) : Int)) % 4294967296 = x.cum := by have := hr.c0; have := hr.c1; omega
      rw [e0] at key
      exact ⟨_, key⟩
    rw [br_iff]
    refine ⟨fun hf => h1.ldC 0 rfl rfl ?_, fun hf => ?_⟩
    · have hf : (addR x.cum x.S t).1 = false := by simpa using hf
      refine c10_2 h1 ho.dups t _ fun w2 D2 h2 _g => ?_
      simp only [rdP_mk, rdB_mk, rdI_mk]
      refine fin ?_ h2 fun w3 D3 h3 _g => ?_
      · have e5 : (((x.dup.length : Nat) : Int) < 4096) ↔ x.dup.length < 4096 := by omega
        simp only [hf, true_and, decide_eq_true_eq, e5]
      simp only [rdB_mk, rdI_mk]
      exact ⟨trivial, D3, h3⟩
    · have hf : (addR x.cum x.S t).1 = true := by simpa using hf
      refine c10_2 h1 ho.dups t _ fun w2 D2 h2 _g => ?_
      simp only [rdP_mk, rdB_mk, rdI_mk]
      refine fin ?_ h2 fun w3 D3 h3 _g => ?_
      · simp [hf]
      simp only [rdB_mk, rdI_mk]
      exact ⟨trivial, D3, h3⟩
/-! the document's coming -/
theorem c11 (h : Hs W (refL rr R x ++ L) w) (ho : OkX x) {t : Int} (t0 : 0 ≤ t) (t1 : t < 4294967296) : Calls Tryd.prog 11 #[.pointer (some ⟨rr, 0, none⟩), .int .u32 t] w (rt fun v w' => v = .tuple #[.bool (addR x.cum x.S t).1, .int .i64 (addR x.cum x.S t).2] ∧ ∃ R', Hs W (refL rr R' (x.come t) ++ L) w') := by
  have hr := ref_RngX h
  refine F11_ok ?_
  unfold F11
  simp only [rdP_mk, rdI_mk, nn_some, add_mk]
  obtain ⟨a, ha, k⟩ := ref_open h
  refine h.ldP 0 rfl rfl (cl (r37 ha t0 t1) ?_)
  rintro _ w1 ⟨rfl, a', q1, q2, q3⟩
  refine ⟨_, _, rfl, ?_⟩
  have h1 := k (fun k hk => by rcases q2 with rfl | q2; exact .inl hk; exact .inr (q2 k hk)) q1 (q3.mono fun k _ e => .inl e)
  rw [br_iff]
  refine ⟨fun he => ?_, fun he => ?_⟩
  · have he : (addR x.cum x.S t).2 ≠ 0 := by simpa using he
    have e1 : (addR x.cum x.S t).1 = false := by
      revert he; unfold addR; split
      · simp
      · split
        · simp
        · split <;> simp
    have e2 : addC x.cum x.S t = x.cum ∧ addS x.cum x.S t = x.S := by
      revert he; unfold addR addC addS; split
      · simp
      · rename_i h2; split
        · rename_i h3; intro _; rw [if_neg (by omega), if_neg (by omega), if_neg (by omega)]; exact ⟨rfl, rfl⟩
        · split <;> simp
    rw [e1]
    refine ⟨rfl, R, ?_⟩
    unfold BX.come
    rw [if_pos he]
    rw [e2.1, e2.2] at h1
    exact h1
  · have he : (addR x.cum x.S t).2 = 0 := by simpa using he
    rw [he]
    have app : ∀ {Kn : Value → Value → World → Prop} (b5 : Bool), (∀ w' R', Hs W (refL rr R' { x with cum := addC x.cum x.S t, S := addS x.cum x.S t, dup := if b5 = true then x.dup ++ [t] else x.dup } ++ L) w' → Kn (.pointer (some ⟨rr, 0, none⟩)) (.bool (addR x.cum x.S t).1) w') →
        F11_1 Kn (.pointer (some ⟨rr, 0, none⟩)) (.int .u32 t) (.bool (addR x.cum x.S t).1) (.bool b5) w1 := by
      intro Kn b5 hK
      unfold F11_1
      simp only [rdP_mk, rdB_mk, rdI_mk, nn_some, add_mk]
      cases b5 with
      | false => exact hK w1 R h1
      | true =>
        refine h1.ldC 0 rfl rfl ?_
        have hdu := ho.dups
        unfold alc
        refine h1.push E30 3 rfl (news := #[_]) rfl (by simp [Value.oneCell']) (by simp only; omega) (by simp only; omega) ?_
        intro a2 c2 w3 h3
        refine h3.stc 0 rfl (by simp) fun w4 h4 => hK w4 { R with da := a2, dc := c2 } ?_
        simp only [if_true]
        unfold refL
        simp only [List.length_append, List.length_singleton, nV_snoc]
        exact h4
    have fin : ∀ {dup' : List Int} {R1 : RD} {w2 : World} {Q : Ending → World → Prop}, dup' = (if (addR x.cum x.S t).1 = false ∧ x.dup.length < 4096 then x.dup ++ [t] else x.dup) → Hs W (refL rr R1 { x with cum := addC x.cum x.S t, S := addS x.cum x.S t, dup := dup' } ++ L) w2 →
        (∀ w' R', Hs W (refL rr R' (x.come t) ++ L) w' → Q (.returned (.tuple #[])) w') → Calls Tryd.prog 38 #[.pointer (some ⟨rr, 0, none⟩)] w2 Q := by
      intro dup' R1 w2 Q hd h2 hK
      refine cl (c38 h2 (by have := ho.len hr; simp only; omega) ho.rngL) ?_
      rintro _ w3 ⟨rfl, R3, h3⟩
      refine hK w3 R3 ?_
      unfold BX.come
      rw [if_neg (by rw [he]; simp), ← hd]
      exact h3
    rw [br_iff]
    refine ⟨fun hf => h1.ldC 0 rfl rfl ?_, fun hf => ?_⟩
    · have hf : (addR x.cum x.S t).1 = false := by simpa using hf
      refine app _ fun w2 R2 h2 _g => ?_
      simp only [rdP_mk, rdB_mk]
      refine fin ?_ h2 fun w3 R3 h3 => ⟨rfl, trivial, R3, h3⟩
      have e5 : (((x.dup.length : Nat) : Int) < 4096) ↔ x.dup.length < 4096 := by omega
      simp only [hf, true_and, decide_eq_true_eq, e5]
    · have hf : (addR x.cum x.S t).1 = true := by simpa using hf
      refine app _ fun w2 R2 h2 _g => ?_
      simp only [rdP_mk, rdB_mk]
      refine fin ?_ h2 fun w3 R3 h3 => ⟨rfl, trivial, R3, h3⟩
      simp [hf]
end
end Go.Proofs.YtccffjlahpfdaaaDoor
