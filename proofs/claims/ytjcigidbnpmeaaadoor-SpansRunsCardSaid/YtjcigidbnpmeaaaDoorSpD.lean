/- Own text: part of the shallow reading of the code and of the contracts that are proved over it. -/
import Derived.Test.YtjcigidbnpmeaaaDoorSpC
namespace Go.Proofs.YtjcigidbnpmeaaaDoor
open Go Go.Sh Go.Sp

/-- a set: its block, its map's block, the cumulative number, the distances -/
structure SetR (w : World) (b m : Nat) (cum : Int) (S : List Nat) : Prop where
  fld : Fld w b m #[.map (some m), .int .i64 (S.length : Int), .int .u32 cum] 67 S
  rising : S.Pairwise (· < ·)
  rng : ∀ d ∈ S, 2 ≤ d ∧ d ≤ 65535
  c0 : 0 ≤ cum
  c1 : cum < 4294967296
abbrev Same (w w' : World) : Prop := Fr (fun _ => False) w w'
abbrev Bm (b m : Nat) : Nat → Prop := fun k => k = b ∨ k = m
theorem SetR.fr {w w' : World} {b m : Nat} {cum : Int} {S : List Nat} {X : Nat → Prop} (h : SetR w b m cum S) (hf : Fr X w w') (hb : ¬ X b) (hm : ¬ X m) : SetR w' b m cum S :=
  ⟨h.fld.fr hf hb hm, h.rising, h.rng, h.c0, h.c1⟩
theorem SetR.same {w w' : World} {b m : Nat} {cum : Int} {S : List Nat} (h : SetR w b m cum S) (hf : Same w w') : SetR w' b m cum S := h.fr hf (fun h => h) (fun h => h)
theorem SetR.len {w : World} {b m : Nat} {cum : Int} {S : List Nat} (h : SetR w b m cum S) : S.length ≤ 65534 := by
  have := rising_length h.rising (a := 2) (b := 65536) (fun d hd => by have := h.rng d hd; omega)
  omega
theorem SetR.blt {w : World} {b m : Nat} {cum : Int} {S : List Nat} (h : SetR w b m cum S) : b < w.heap.size := lt_of_blk h.fld.blk
theorem SetR.mlt {w : World} {b m : Nat} {cum : Int} {S : List Nat} (h : SetR w b m cum S) : m < w.heap.size := by obtain ⟨f, hf, _⟩ := h.fld.map; exact hf.lt
theorem word_nil (i : Nat) : word [] i = 0 := rfl

theorem c23 {cum : Int} (h0 : 0 ≤ cum) (h1 : cum < 4294967296) (w : World) : Calls Tryd.prog 23 #[.int .u32 cum] w (rt fun v w' => ∃ b m, v = .pointer (some ⟨b, 0, none⟩) ∧ SetR w' b m cum [] ∧ w.heap.size ≤ b ∧ w.heap.size ≤ m ∧ Same w w') := by
  refine F23_ok ?_
  unfold F23 alc
  simp only [rdI_mk]
  refine ⟨_, w.heap.size, rfl, ⟨⟨alloc_new _ _, rfl, rfl, fun _ => none, (MapI.new .i64 .u64 w).of_blk (alloc_old (by simp)), fun _ => rfl⟩, by simp, by simp, h0, h1⟩, by simp, Nat.le_refl _, ((Fr.refl w).alloc _).alloc _⟩
section
variable {w : World} {b m : Nat} {cum : Int} {S : List Nat}
theorem c35 (h : SetR w b m cum S) : Calls Tryd.prog 35 #[.pointer (some ⟨b, 0, none⟩)] w (rt (KR (.bool true) w)) := by
  refine F35_ok ?_
  unfold F35
  simp only [rdP_mk, Option.isNone_some, Bool.not_false, br_true, nn_some, add_mk]
  exact ldM_at h.fld.blk rfl (KR.mk _ _)
theorem c35_nil (w : World) : Calls Tryd.prog 35 #[.pointer none] w (rt (KR (.bool false) w)) := by
  refine F35_ok ?_
  unfold F35
  simp only [rdP_mk, Option.isNone_none, Bool.not_true, br_false]
  exact KR.mk _ _
theorem c35_un {cs : Array Value} {T : TypeId} (h : w.heap[b]? = some (.cells cs T (0, 0))) (hm : cs[0]? = some (.map none)) : Calls Tryd.prog 35 #[.pointer (some ⟨b, 0, none⟩)] w (rt (KR (.bool false) w)) := by
  refine F35_ok ?_
  unfold F35
  simp only [rdP_mk, Option.isNone_some, Bool.not_false, br_true, nn_some, add_mk]
  exact ldM_at h hm (KR.mk _ _)
theorem c10 (h : SetR w b m cum S) : Calls Tryd.prog 10 #[.pointer (some ⟨b, 0, none⟩)] w (rt (KR (.int .u32 cum) w)) := by
  refine F10_ok ?_
  unfold F10
  simp only [rdP_mk]
  refine clr (c35 h) ⟨_, rfl, ?_⟩
  simp only [Bool.not_true, br_false, nn_some, add_mk]
  exact ldI_at h.fld.blk rfl (KR.mk _ _)
theorem c34 (h : SetR w b m cum S) : Calls Tryd.prog 34 #[.pointer (some ⟨b, 0, none⟩)] w (rt (KR (.int .i64 (S.length : Int)) w)) := by
  refine F34_ok ?_
  unfold F34
  simp only [rdP_mk]
  refine clr (c35 h) ⟨_, rfl, ?_⟩
  simp only [Bool.not_true, br_false, nn_some, add_mk]
  exact ldI_at h.fld.blk rfl (KR.mk _ _)
/-- a distance that can be above; else 0 -/
def abv (cum tsn : Int) : Nat := if sd cum tsn < 2 ∨ 65535 < sd cum tsn then 0 else (sd cum tsn).toNat
theorem abv_pos {cum tsn : Int} (h : (abv cum tsn : Int) > 0) : abv cum tsn = (sd cum tsn).toNat := by
  unfold abv at h ⊢
  by_cases hc : sd cum tsn < 2 ∨ 65535 < sd cum tsn
  · rw [if_pos hc] at h; simp at h
  · rw [if_neg hc]
theorem c45 (h : SetR w b m cum S) (tsn : Int) : Calls Tryd.prog 45 #[.pointer (some ⟨b, 0, none⟩), .int .u32 tsn] w (rt (KR (.int .i64 (abv cum tsn : Int)) w)) := by
  refine F45_ok ?_
  unfold F45
  simp only [rdP_mk, rdI_mk, nn_some, add_mk]
  refine ldI_at h.fld.blk rfl ?_
  refine clr (c46 _ _ w) ⟨_, rfl, ?_⟩
  simp only [br_dec]
  unfold abv
  refine ⟨fun h1 => ?_, fun h1 => ⟨fun h2 => ?_, fun h2 => ?_⟩⟩
  · rw [if_pos (.inl h1)]; exact KR.mk _ _
  · rw [if_pos (.inr h2)]; exact KR.mk _ _
  · rw [if_neg (by omega), Int.toNat_of_nonneg (by omega)]; exact KR.mk _ _
/-- is a number in? -/
def hasS (cum : Int) (S : List Nat) (tsn : Int) : Bool := decide (sd cum tsn ≤ 0) || decide ((sd cum tsn).toNat ∈ S)
theorem c21 (h : SetR w b m cum S) (tsn : Int) : Calls Tryd.prog 21 #[.pointer (some ⟨b, 0, none⟩), .int .u32 tsn] w (rt fun v w' => v = .bool (hasS cum S tsn) ∧ Same w w') := by
  refine F21_ok ?_
  unfold F21
  simp only [rdP_mk, rdI_mk]
  refine clr (c35 h) ⟨_, rfl, ?_⟩
  simp only [Bool.not_true, br_false]
  refine clr (c45 h tsn) ⟨_, rfl, ?_⟩
  simp only [nn_some, add_mk]
  refine ldI_at h.fld.blk rfl ?_
  refine clr (c46 _ _ w) ⟨_, rfl, ?_⟩
  simp only [br_dec]
  refine ⟨fun h1 => ⟨by simp [hasS, h1], Fr.refl w⟩, fun h1 => ⟨fun h2 => ?_, fun h2 => ⟨?_, Fr.refl w⟩⟩⟩
  · have ha : abv cum tsn = (sd cum tsn).toNat := abv_pos h2
    have hlt : abv cum tsn < 9223372036854775808 := by have := sd_range cum tsn; omega
    refine clr (c47 h.fld hlt) ⟨_, rfl, ?_, (Fr.refl w).drew⟩
    rw [ha]; simp [hasS, h1]
  · have : (sd cum tsn).toNat ∉ S := by
      intro hm
      have := h.rng _ hm
      unfold abv at h2
      rw [if_neg (by omega)] at h2
      omega
    simp [hasS, h1, this]
theorem c28 (h : SetR w b m cum S) (tsn : Int) : Calls Tryd.prog 28 #[.pointer (some ⟨b, 0, none⟩), .int .u32 tsn] w (rt fun v w' => v = .bool (decide ((sd cum tsn).toNat ∈ S)) ∧ SetR w' b m cum (del (sd cum tsn).toNat S) ∧ Fr (Bm b m) w w') := by
  refine F28_ok ?_
  unfold F28
  simp only [rdP_mk, rdI_mk]
  refine clr (c35 h) ⟨_, rfl, ?_⟩
  simp only [Bool.not_true, br_false]
  refine clr (c45 h tsn) ⟨_, rfl, ?_⟩
  have hdel : ∀ d, d ∉ S → del d S = S := fun d hd => by
    unfold del
    rw [List.filter_eq_self]
    intro a ha
    simp
    intro e; subst e; exact hd ha
  simp only [br_dec]
  refine ⟨fun h2 => ?_, fun h2 => ?_⟩
  · have ha : abv cum tsn = (sd cum tsn).toNat := abv_pos h2
    have hlt : abv cum tsn < 9223372036854775808 := by have := sd_range cum tsn; omega
    simp only [nn_some, add_mk]
    by_cases hm : abv cum tsn ∈ S
    · refine cl (c49_new h.fld hlt hm h.rising (by have := h.len; omega)) ?_
      rintro _ w' ⟨rfl, h3, h4⟩
      refine ⟨_, rfl, ?_, ?_, h4⟩
      · rw [← ha]; simp [hm]
      · rw [← ha]; exact ⟨h3, del_rising h.rising, fun d hd => h.rng d (mem_del.1 hd).1, h.c0, h.c1⟩
    · refine clr (c49_old h.fld hlt hm) ⟨_, rfl, ?_, ?_, (Fr.refl w).drew⟩
      · rw [← ha]; simp [hm]
      · rw [← ha, hdel _ hm]; exact h.same (Fr.refl w).drew
  · have hm : (sd cum tsn).toNat ∉ S := by
      intro hm
      have := h.rng _ hm
      unfold abv at h2
      rw [if_neg (by omega)] at h2
      omega
    rw [hdel _ hm]
    exact ⟨by simp [hm], h, Fr.refl w⟩
end
end Go.Proofs.YtjcigidbnpmeaaaDoor
