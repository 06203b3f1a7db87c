/- Own text: part of the shallow reading of the code and of the contracts that are proved over it. -/
import Derived.Test.YtccffjlahpfdaaaDoorIbK
namespace Go.Proofs.YtccffjlahpfdaaaDoor
open Go Go.Sh Go.Sp
section
variable {W w : World} {L : List HP} {bb rr : Nat} {D : BD} {R : RD} {x : BX}
/-! new boxes -/
def x0 (first delay : Int) (nr : Bool) : BX := ⟨(first - 1) % 4294967296, [], [], [], delay, nr, 0, false, -1⟩
theorem x0_ok {first delay : Int} {nr : Bool} (h : 0 ≤ delay ∧ delay ≤ 500) : OkX (x0 first delay nr) := ⟨by simp [x0], by simp [x0], by simp [x0], h.1, h.2⟩
theorem c28 (h : Hs W L w) (first delay : Int) (nr : Bool) : Calls Tryd.prog 28 #[.int .u32 first, .int .i64 delay, .bool nr] w (rt fun v w' => (¬ (0 ≤ delay ∧ delay ≤ 500) ∧ v = .tuple #[.pointer none, .int .i64 190] ∧ w' = w) ∨ ((0 ≤ delay ∧ delay ≤ 500) ∧ ∃ bb D, v = .tuple #[.pointer (some ⟨bb, 0, none⟩), .int .i64 0] ∧ Hs W (boxL bb D (x0 first delay nr) ++ L) w')) := by
  refine F28_ok ?_
  unfold F28
  simp only [rdI_mk, rdB_mk]
  rw [br_dec]
  refine ⟨fun hd => .inl ⟨by omega, by simp⟩, fun hd => ?_⟩
  rw [br_dec]
  refine ⟨fun hd2 => .inl ⟨by omega, by simp⟩, fun hd2 => ?_⟩
  unfold F28_1
  simp only [rdI_mk, rdB_mk]
  have e1 : IntKind.wrap .u32 (first - 1) = (first - 1) % 4294967296 := wrap_u32_mod _
  rw [e1]
  refine cl (c56 (by omega) (by omega) w) ?_
  rintro _ w1 ⟨b, m, rfl, hs, hb, hm, s1⟩
  refine ⟨_, rfl, ?_⟩
  have h1 : Hs W ((on [b, m] fun w => SetR w b m ((first - 1) % 4294967296) []) :: L) w1 := h.build s1 (setP_of hs) Dm.on fun k hk => by
    simp at hk; rcases hk with rfl | rfl
    · exact hb
    · exact hm
  have h2 : Hs W (setP b ((first - 1) % 4294967296) [] :: L) w1 := Hs.at_ex (F := fun m => on [b, m] fun w => SetR w b m ((first - 1) % 4294967296) []) h1 0 (x := m) rfl
  unfold alc
  have h3 := h2.map_new .u32 .i64
  generalize hmb : w1.heap.size = mb at h3 ⊢
  generalize w1.alloc (.map #[] 0) = w2 at h3 ⊢
  have h4 := h3.alloc (.cells #[.pointer (some ⟨b, 0, none⟩), .map (some mb), .slice none 0 0, .int .i64 delay, .bool nr, .int .i64 0, .bool false, .int .i64 (-1)] 80)
  intro _g
  simp only [rdP_mk, rdI_mk]
  refine .inr ⟨by omega, _, ⟨b, mb, none, 0⟩, rfl, ?_⟩
  have ef : (fun _ => none : Int → Option Int) = fxF [] := by funext k; simp [fxF]
  rw [ef] at h4
  exact Hs.re (X := [_, _, _, _]) (L := L) (n := 4) (h4.nil 22 1) rfl (is := [1, 3, 2, 0]) (by decide)
theorem c29 (h : Hs W L w) (first delay : Int) (nr : Bool) : Calls Tryd.prog 29 #[.int .u32 first, .int .i64 delay, .bool nr] w (rt fun v w' => (¬ (0 ≤ delay ∧ delay ≤ 500) ∧ v = .tuple #[.pointer none, .int .i64 190] ∧ w' = w) ∨ ((0 ≤ delay ∧ delay ≤ 500) ∧ ∃ rr R, v = .tuple #[.pointer (some ⟨rr, 0, none⟩), .int .i64 0] ∧ Hs W (refL rr R (x0 first delay nr) ++ L) w')) := by
  refine F29_ok ?_
  unfold F29
  simp only [rdI_mk, rdB_mk]
  rw [br_dec]
  refine ⟨fun hd => .inl ⟨by omega, by simp⟩, fun hd => ?_⟩
  rw [br_dec]
  refine ⟨fun hd2 => .inl ⟨by omega, by simp⟩, fun hd2 => ?_⟩
  unfold F29_1
  simp only [rdI_mk, rdB_mk]
  have e1 : IntKind.wrap .u32 (first - 1) = (first - 1) % 4294967296 := wrap_u32_mod _
  rw [e1]
  refine cl (r54 (by omega) (by omega) w) ?_
  rintro _ w1 ⟨rfl, hs, s1⟩
  refine ⟨_, rfl, ?_⟩
  obtain ⟨rs, hrs⟩ : ∃ rs, rs = w.heap.size := ⟨_, rfl⟩
  rw [← hrs] at hs ⊢
  have h1 : Hs W ((on (rs :: bk none) fun w => RefR w rs none ((first - 1) % 4294967296) []) :: L) w1 := h.build s1 (refP_of hs) Dm.on fun k hk => by
    simp [bk] at hk; omega
  have h2 : Hs W (refP rs ((first - 1) % 4294967296) [] :: L) w1 := Hs.at_ex (F := fun a => on (rs :: bk a) fun w => RefR w rs a ((first - 1) % 4294967296) []) h1 0 (x := none) rfl
  unfold alc
  have h4 := h2.alloc (.cells #[.pointer (some ⟨rs, 0, none⟩), .bool nr, .int .i64 delay, .slice none 0 0, .slice none 0 0, .int .i64 0, .bool false, .bool false, .int .i64 0] 36)
  intro _g
  simp only [rdP_mk, rdI_mk]
  refine .inr ⟨by omega, _, ⟨rs, none, 0, none, 0⟩, rfl, ?_⟩
  exact Hs.re (X := [_, _, _, _]) (L := L) (n := 4) ((h4.nil 22 1).nil 22 1) rfl (is := [2, 3, 0, 1]) (by decide)
/-! same -/
theorem c30 (ht : TB W) (h : Hs W (boxL bb D x ++ (refL rr R x ++ L)) w) (ho : OkX x) : Calls Tryd.prog 30 #[.pointer (some ⟨bb, 0, none⟩), .pointer (some ⟨rr, 0, none⟩)] w (rt fun v w' => v = .bool true ∧ Same w w') := by
  have hr := box_RngX h
  have hlen := hr.len
  have hdu := ho.dups
  have toR : ∀ {w1 : World}, Hs W (boxL bb D x ++ (refL rr R x ++ L)) w1 → Hs W (refL rr R x ++ (boxL bb D x ++ L)) w1 := fun h => Hs.flip.1 h
  refine F30_ok ?_
  unfold F30
  simp only [rdP_mk]
  refine clr (c22 h) ⟨_, _, rfl, ?_⟩
  simp only [nn_some, add_mk]
  have hR := toR h
  have one : ∀ {Kr : Value → World → Prop}, (∀ w', Same w w' → Kr (.bool true) w') → F30_1 Kr (.pointer (some ⟨bb, 0, none⟩)) (.pointer (some ⟨rr, 0, none⟩)) (.int .i64 (if 0 ≤ x.due then x.due else 0)) (.bool (decide (0 ≤ x.due))) (.int .i64 (if 0 ≤ x.due then x.due else 0)) w := by
    intro Kr hK
    unfold F30_1 drw
    simp only [rdP_mk, rdI_mk, rdB_mk, nn_some, add_mk]
    have s0 : Same w w.drew := (Fr.refl w).drew
    have h1 := h.same s0
    generalize w.drew = w1 at s0 h1 ⊢
    have hR1 := toR h1
    have eI : ∀ x : Int, (x == x) = true := fun x => by simp
    have eB : ∀ x : Bool, (x == x) = true := fun x => by simp
    refine ⟨w1, Pres.refl _, hR1.ldB 0 rfl rfl ?_⟩
    rw [eB, br_true, eI, br_true]
    obtain ⟨cs, hcs, hc0⟩ := ref_cum hR1
    refine hR1.ldP 0 rfl rfl ?_
    simp only [nn_some, add_mk]
    refine ldI_at hcs hc0 (clr (c24 h1) ⟨_, rfl, Pres.refl _, ?_⟩)
    rw [eI, br_true]
    refine hR1.ldP 0 rfl rfl (cl (c27 ht h1) ?_)
    rintro _ w2 ⟨a2, d2, rfl, o2, s2⟩
    refine ⟨_, _, _, rfl, Pres.of_Same s2, ?_⟩
    have k2 := (Hs.start w1).own_new s2 o2
    obtain ⟨ra, hra, _⟩ := ref_open (toR (h1.same k2.1))
    refine cl (r26 hra) ?_
    rintro _ w3 ⟨a3, d3, rfl, o3, s3⟩
    rw [numV_nV] at o3
    have k3 := k2.own_new s3 o3
    refine ⟨_, _, _, rfl, Pres.of_Same k3.1, ?_⟩
    have key := c25 (X := nums x.cum x.S) (Y := nums x.cum x.S) (d1 := d2) (d2 := d3) (k3.rd 1 rfl) (k3.rd 0 rfl) (by rw [nums_length]; omega)
    rw [nums_length] at key
    refine cl key ?_
    rintro _ w4 ⟨rfl, s4⟩
    have k4 := k3.same s4
    refine ⟨_, rfl, Pres.of_Same k4.1, ?_⟩
    rw [decide_eq_true rfl, br_true]
    refine cl (c32 ht (h1.same k4.1)) ?_
    rintro _ w5 ⟨a5, d5, rfl, o5, s5⟩
    have k5 := k4.own_new s5 o5
    refine ⟨_, _, _, rfl, Pres.of_Same k5.1, ?_⟩
    refine cl (c14 (toR (h1.same k5.1)) ho) ?_
    rintro _ w6 ⟨a6, d6, rfl, o6, s6⟩
    have k6 := k5.own_new s6 o6
    refine ⟨_, _, _, rfl, Pres.of_Same k6.1, ?_⟩
    have hfl : ((nums x.cum x.S).filter fun t => decide (t ∈ x.fx)).length ≤ 65534 := Nat.le_trans (List.length_filter_le _ _) (by rw [nums_length]; omega)
    refine cl (c25 (k6.rd 1 rfl) (k6.rd 0 rfl) (by omega)) ?_
    rintro _ w7 ⟨rfl, s7⟩
    have k7 := k6.same s7
    refine ⟨_, rfl, Pres.of_Same k7.1, ?_⟩
    rw [decide_eq_true rfl, br_true]
    refine hR1.ldC 0 rfl rfl (cl (c33 (h1.same k7.1) (by omega)) ?_)
    rintro _ w8 ⟨a8, d8, rfl, o8, s8⟩
    have k8 := k7.own_new s8 o8
    refine ⟨_, _, _, rfl, Pres.of_Same k8.1, ?_⟩
    refine cl (c25 (k8.rd 0 rfl) ((toR (h1.same k8.1)).rd 3 rfl) (by omega)) ?_
    rintro _ w9 ⟨rfl, s9⟩
    rw [decide_eq_true rfl]
    exact ⟨_, rfl, hK w9 (s0.trans (k8.same s9).1 fun _ _ x => x)⟩
  refine hR.ldB 0 rfl rfl ?_
  rw [br_dec]
  refine ⟨fun hd => hR.ldI 0 rfl rfl (one fun w' s _g => ?_), fun hd => ?_⟩
  · simp only [rdB_mk]; exact ⟨trivial, s⟩
  · have e0 : (if 0 ≤ x.due then x.due else 0) = 0 := if_neg hd
    have := one (Kr := fun y w' => ∀ _g : Tm, rdB y fun b => (.bool b : Value) = .bool true ∧ Same w w') fun w' s _g => ⟨true, rfl, rfl, s⟩
    rw [e0] at this ⊢
    exact this
end
end Go.Proofs.YtccffjlahpfdaaaDoor
