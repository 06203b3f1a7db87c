/- Own text: part of the shallow reading of the code and of the contracts that are proved over it. -/
import Derived.Test.YtjcigidbnpmeaaaDoorSpZ
namespace Go.Proofs.YtjcigidbnpmeaaaDoor
open Go Go.Sh Go.Sp

/-! the document's Gaps and Missing -/
theorem gstep_keep {L : List (Nat × Nat)} {m d : Nat} (h : m < L.length) : (gstep L d).take m = L.take m ∧ m < (gstep L d).length := by
  rcases List.eq_nil_or_concat L with rfl | ⟨L, p, rfl⟩
  · simp at h
  · rw [List.concat_eq_append] at h ⊢
    rw [gstep_snoc]
    simp only [List.length_append, List.length_singleton] at h
    split
    · rw [take_full (by omega), take_full (by omega)]; exact ⟨rfl, by simp; omega⟩
    · rw [List.append_assoc, take_full (by omega), take_full (by omega)]; exact ⟨rfl, by simp; omega⟩
theorem gapA_keep (s : List Nat) : ∀ (L : List (Nat × Nat)) (m : Nat), m < L.length → (s.foldl gstep L).take m = L.take m := by
  induction s with
  | nil => intro L m _; rfl
  | cons d s ih =>
    intro L m h
    rw [List.foldl_cons, ih _ m (gstep_keep h).2, (gstep_keep h).1]
theorem gapA_append (r s : List Nat) : gapA (r ++ s) = s.foldl gstep (gapA r) := by simp [gapA]
/-- a new block's beginning: what was told before stays -/
theorem gapA_cut {r s : List Nat} {d : Nat} (h : gstep (gapA r) d = gapA r ++ [(d, d)]) : (gapA (r ++ d :: s)).take (gapA r).length = gapA r := by
  rw [gapA_append, List.foldl_cons, gapA_keep s _ _ (by rw [h]; simp), h, take_full (Nat.le_refl _), List.take_length]
theorem gstep_of {r : List Nat} {d : Nat} : (∃ L p, gapA r = L ++ [p] ∧ p.2 + 1 = d ∧ gstep (gapA r) d = L ++ [(p.1, d)]) ∨ (gstep (gapA r) d = gapA r ++ [(d, d)] ∧ ∀ L p, gapA r = L ++ [p] → p.2 + 1 ≠ d) := by
  rcases List.eq_nil_or_concat (gapA r) with h | ⟨L, p, h⟩
  · rw [h]; exact .inr ⟨rfl, fun L p e => by simp at e⟩
  · rw [List.concat_eq_append] at h
    rw [h, gstep_snoc]
    by_cases hc : p.2 + 1 = d
    · rw [if_pos hc]; exact .inl ⟨L, p, rfl, hc, rfl⟩
    · rw [if_neg hc]
      refine .inr ⟨rfl, fun L' p' e => ?_⟩
      have := List.append_inj_right' e rfl
      simp at this
      rw [← this]; exact hc
theorem gapA_last {r : List Nat} {e : Nat} {L : List (Nat × Nat)} {p : Nat × Nat} (h : gapA (r ++ [e]) = L ++ [p]) : p.2 = e := by
  rw [gapA_snoc] at h
  obtain ⟨q, h1, h2⟩ := gstep_last (gapA r) e
  rw [h] at h1
  simp at h1
  rw [h1]; exact h2
section
variable {b : Nat} {a : Option Addr} {cum N : Int} {S : List Nat}
theorem r32_loop {w0 : World} (hR : RefR w0 b a cum S) {K0 : Value → World → Prop} {Kr : Value → World → Prop} : ∀ (i j : Nat) (w : World) (k : Nat) (la : Option Addr) (c : Nat), j + i = S.length → Same w0 w → Own w w0.heap.size 74 2 la (gapA (S.take j)).length c (gapV (gapA (S.take j))) → ((gapA (S.take j)).length : Int) ≤ N ∨ gapA (S.take j) = [] → i < k →
    (∀ w' la c, Same w0 w' → Own w' w0.heap.size 74 2 la (gapS S N).length c (gapV (gapS S N)) → K0 (.slice la (gapS S N).length c) w') →
    (∀ w' la c, Same w0 w' → Own w' w0.heap.size 74 2 la (gapS S N).length c (gapV (gapS S N)) → Kr (.slice la (gapS S N).length c) w') →
    F32_2 K0 Kr k (.pointer (some ⟨b, 0, none⟩)) (.int .i64 N) (.slice la (gapA (S.take j)).length c) (.int .i64 (j : Int)) w := by
  have hlen := hR.len
  intro i
  induction i with
  | zero =>
    intro j w k la c hj hf ho hN hk hK hKr
    obtain ⟨k, rfl⟩ : ∃ j, k = j + 1 := ⟨k - 1, by omega⟩
    obtain ⟨c0, k1, k2⟩ := (hR.same hf).blk
    show F32_2B _ _ _ _ _ _ _ _
    unfold F32_2B
    simp only [rdP_mk, rdI_mk, rdC_mk, nn_some, add_mk]
    refine ldC_at k1 rfl ?_
    simp only [br_dec]
    rw [List.take_of_length_le (by omega)] at ho hN ⊢
    refine ⟨fun h => by exfalso; omega, fun _ => ?_⟩
    have : gapS S N = gapA S := by
      unfold gapS
      rcases hN with hN | hN
      · exact List.take_of_length_le (by omega)
      · rw [hN]; simp
    have := hK w la c hf
    rw [‹gapS S N = gapA S›] at this
    exact this ho
  | succ i ih =>
    intro j w k la c hj hf ho hN hk hK hKr
    obtain ⟨k, rfl⟩ : ∃ j, k = j + 1 := ⟨k - 1, by omega⟩
    obtain ⟨c0, k1, k2⟩ := (hR.same hf).blk
    obtain ⟨x, hx⟩ : ∃ x, S[j]? = some x := ⟨S[j]'(by omega), by simp⟩
    have hxr := hR.rng x (List.mem_of_getElem? hx)
    have htake : S.take (j + 1) = S.take j ++ [x] := by rw [List.take_add_one, hx]; rfl
    have hsplit : S = S.take j ++ x :: S.drop (j + 1) := by
      have h1 := List.take_append_drop j S
      have h2 : S.drop j = x :: S.drop (j + 1) := by
        have := List.getElem?_eq_getElem (l := S) (i := j) (by omega)
        rw [hx, Option.some.injEq] at this
        rw [List.drop_eq_getElem_cons (by omega), ← this]
      rw [← h2]; exact h1.symm
    have e1 : IntKind.wrap .i64 ((j : Int) + 1) = ((j + 1 : Nat) : Int) := by rw [wrap_i64 (by omega) (by omega)]; omega
    have hgl : (gapA (S.take j)).length ≤ 65534 := by
      have := (gapA_inv (S.take j) (hR.rising.sublist (List.take_sublist _ _))).2.2
      rw [List.length_take] at this; omega
    have wx : IntKind.wrap .u16 (x : Int) = x := wrap_u16 (by omega) (by omega)
    have f0 : Same w w.drew := (Fr.refl w).drew
    have g0 : Same w0 w.drew := hf.drew
    -- a new block
    have fresh : ∀ {L : List (Nat × Nat)} {w1 : World} , gapA (S.take j) = L → gstep L x = L ++ [(x, x)] → Same w0 w1 → Own w1 w0.heap.size 74 2 la L.length c (gapV L) →
        br (decide (((L.length : Int) : Int) ≥ N)) (Kr (.slice la L.length c) w1) (drw w1 fun w30 => nn (some (Addr.mk b 0 none)) fun a31 => ldC (a31.add 1) w30 fun l32a l32n l32c => ixS 1 l32a l32n (j : Int) fun a33 => ldI .i64 a33 w30 fun n34 => nn (some (Addr.mk b 0 none)) fun a35 => ldC (a35.add 1) w30 fun l36a l36n l36c => ixS 1 l36a l36n (j : Int) fun a37 => ldI .i64 a37 w30 fun n38 => alc (.cells #[(.int .u16 (IntKind.wrap .u16 (n34))), (.int .u16 (IntKind.wrap .u16 (n38)))] 74) w30 fun b39 w40 => ∃ l41a l41n l41c w42, Sem.run Tryd.prog (Builtin.append_ #[37, 37] 37 #[(.slice la L.length c), (.slice (some (Addr.mk b39 0 none)) 1 1)]) w40 = .ok (.slice l41a l41n l41c) w42 ∧ (F32_2 K0 Kr k (.pointer (some ⟨b, 0, none⟩)) (.int .i64 N) (.slice l41a l41n l41c) (.int .i64 (IntKind.wrap .i64 ((j : Int) + 1))) w42)) := by
      intro L w1 hL hg hf1 ho1
      subst hL
      obtain ⟨c1, q1, q2⟩ := (hR.same hf1).blk
      unfold drw alc
      simp only [nn_some, add_mk, br_dec]
      refine ⟨fun h => ?_, fun h => ?_⟩
      · have hgs : gapS S N = gapA (S.take j) := by
          unfold gapS
          have hcut := gapA_cut (s := S.drop (j + 1)) hg
          rw [← hsplit] at hcut
          rcases hN with hN | hN
          · rw [show N.toNat = (gapA (S.take j)).length by omega]; exact hcut
          · rw [hN] at h ⊢
            rw [show N.toNat = 0 by simp at h; omega, List.take_zero]
        have := hKr w1 la c hf1
        rw [hgs] at this
        exact this ho1
      · have f1 : Same w1 w1.drew := (Fr.refl w1).drew
        refine ldC_at (w := w1.drew) q1 rfl ?_
        have hr := Rd.same q2.rd f1
        obtain ⟨ad, ha⟩ := hr.some (by rw [atV_length]; omega)
        rw [ha] at hr ⊢
        refine ixS_of (by omega) (by omega) ?_
        simp only [Int.toNat_natCast, Nat.mul_one]
        refine ldI_c (hr.at (atV_at hx)) ?_
        refine ldC_at (w := w1.drew) q1 rfl ?_
        rw [ha]
        refine ixS_of (by omega) (by omega) ?_
        simp only [Int.toNat_natCast, Nat.mul_one]
        refine ldI_c (hr.at (atV_at hx)) ?_
        rw [wx]
        refine push E37 (ho1.fr f1 fun _ _ x => x) (news := #[_, _]) rfl (by simp [Value.oneCell']) (by omega) (by omega) hf1.drew.size ?_
        intro a2 c2 w2 p1 p2 p3
        rw [e1]
        have hgn : gapA (S.take (j + 1)) = gapA (S.take j) ++ [(x, x)] := by rw [htake, gapA_snoc, hg]
        have hgl2 : (gapA (S.take (j + 1))).length = (gapA (S.take j)).length + 1 := by rw [hgn]; simp
        have := ih (j + 1) w2 k a2 c2 (by omega) ?_ ?_ (.inl (by omega)) (by omega) hK hKr
        · rw [hgl2] at this; exact this
        · exact ((hf1.drew.mono (S' := fun k => w0.heap.size ≤ k) fun _ _ x => x.elim).trans p2 fun i _ x => (ho1.base_le x).1).mono fun i hi x => by omega
        · rw [hgl2, hgn, gapV_snoc]; exact p1
    show F32_2B _ _ _ _ _ _ _ _
    unfold F32_2B drw
    simp only [rdP_mk, rdI_mk, rdC_mk, nn_some, add_mk]
    refine ldC_at k1 rfl ?_
    simp only [br_dec]
    refine ⟨fun _ => ⟨fun hj0 => ?_, fun hj0 => ?_⟩, fun h => by exfalso; omega⟩
    · refine ldC_at (w := w.drew) k1 rfl ?_
      have hr := Rd.same k2.rd f0
      obtain ⟨ad, ha⟩ := hr.some (by rw [atV_length]; omega)
      rw [ha] at hr ⊢
      refine ixS_of (by omega) (by omega) ?_
      simp only [Int.toNat_natCast, Nat.mul_one]
      refine ldI_c (hr.at (atV_at hx)) ?_
      refine ldC_at (w := w.drew) k1 rfl ?_
      rw [ha]
      have e2 : IntKind.wrap .i64 ((j : Int) - 1) = ((j - 1 : Nat) : Int) := by rw [wrap_i64 (by omega) (by omega)]; omega
      rw [e2]
      obtain ⟨y, hy⟩ : ∃ x, S[j - 1]? = some x := ⟨S[j - 1]'(by omega), by simp⟩
      have hyr := hR.rng y (List.mem_of_getElem? hy)
      refine ixS_of (by omega) (by omega) ?_
      simp only [Int.toNat_natCast, Nat.mul_one]
      refine ldI_c (hr.at (atV_at hy)) ?_
      have e3 : IntKind.wrap .i64 ((y : Int) + 1) = ((y + 1 : Nat) : Int) := by rw [wrap_i64 (by omega) (by omega)]; omega
      rw [e3]
      have htj : S.take j = S.take (j - 1) ++ [y] := by
        have : S.take (j - 1 + 1) = S.take (j - 1) ++ [y] := by rw [List.take_add_one, hy]; rfl
        rwa [show j - 1 + 1 = j by omega] at this
      obtain ⟨L, p, hLp⟩ : ∃ L p, gapA (S.take j) = L ++ [p] := by
        obtain ⟨p, h1, _⟩ := gstep_last (gapA (S.take (j - 1))) y
        rw [htj, gapA_snoc]
        rcases List.eq_nil_or_concat (gstep (gapA (S.take (j - 1))) y) with h | ⟨L, p, h⟩
        · rw [h] at h1; simp at h1
        · exact ⟨L, p, by rw [h]; simp⟩
      have hp2 : p.2 = y := gapA_last (r := S.take (j - 1)) (by rw [← htj]; exact hLp)
      have ho' := ho.fr f0 fun _ _ x => x
      unfold F32_1
      simp only [rdP_mk, rdI_mk, rdC_mk, rdB_mk]
      by_cases hadj : x = y + 1
      · have : ((x : Int) == ((y + 1 : Nat) : Int)) = true := by rw [beq_iff_eq]; omega
        rw [this, br_true]
        have hgn : gapA (S.take (j + 1)) = L ++ [(p.1, x)] := by rw [htake, gapA_snoc, hLp, gstep_snoc, if_pos (by omega)]
        rw [hLp] at ho' hgl hN ⊢
        have hsz : (L ++ [p]).length = L.length + 1 := by simp
        have e4 : IntKind.wrap .i64 (((L ++ [p]).length : Int) - 1) = ((L.length : Nat) : Int) := by rw [hsz, wrap_i64 (by omega) (by omega)]; omega
        rw [e4]
        have hgv : (gapV (L ++ [p]))[L.length * 2 + 1]? = some (.int .u16 (p.2 : Int)) := by
          rw [gapV_snoc, List.getElem?_append_right (by rw [gapV_length]; omega), gapV_length]
          simp [Nat.add_sub_cancel_left]
        obtain ⟨gd, hgd⟩ := ho'.rd.some (by rw [gapV_length]; omega)
        rw [hgd] at ho' ⊢
        refine ixS_of (by omega) (by omega) ?_
        simp only [Int.toNat_natCast, add_add]
        refine ldI_c (ho'.rd.at hgv) (ixS_of (by omega) (by omega) ?_)
        simp only [Int.toNat_natCast, add_add]
        have e5 : IntKind.wrap .u16 ((p.2 : Int) + 1) = (x : Int) := by rw [wrap_u16 (by omega) (by omega)]; omega
        rw [e5]
        refine ho'.put (by rw [gapV_length, hsz]; omega) fun w2 p1 p2 _g => ?_
        rw [e1]
        have hset : (gapV (L ++ [p])).set (L.length * 2 + 1) (.int .u16 (x : Int)) = gapV (L ++ [(p.1, x)]) := by
          rw [gapV_snoc, gapV_snoc, List.set_append_right _ _ (by rw [gapV_length]; omega), gapV_length]
          simp [Nat.add_sub_cancel_left]
        rw [hset] at p1
        have hl2 : (gapA (S.take (j + 1))).length = (L ++ [p]).length := by rw [hgn]; simp
        have := ih (j + 1) w2 k (some gd) c (by omega) ?_ ?_ ?_ (by omega) hK hKr
        · rw [hl2] at this; exact this
        · exact ((g0.mono (S' := fun k => w0.heap.size ≤ k) fun _ _ x => x.elim).trans p2 fun i _ x => (ho'.base_le x).1).mono fun i hi x => by omega
        · rw [hl2, hgn]; exact p1
        · rcases hN with hN | hN
          · exact .inl (by rw [hl2]; exact hN)
          · simp at hN
      · have : ((x : Int) == ((y + 1 : Nat) : Int)) = false := by rw [beq_eq_false_iff_ne]; omega
        rw [this, br_false]
        intro _g
        exact br_dec.1 (fresh (L := gapA (S.take j)) rfl (by rw [hLp, gstep_snoc, if_neg (by omega)]) g0 ho')
    · have hj00 : j = 0 := by omega
      unfold F32_1
      simp only [rdP_mk, rdI_mk, rdC_mk, rdB_mk, br_false]
      intro _g
      have hnil : gapA (S.take j) = [] := by rw [hj00]; rfl
      exact br_dec.1 (fresh (L := gapA (S.take j)) rfl (by rw [hnil]; rfl) g0 (ho.fr f0 fun _ _ x => x))
theorem r32 {w : World} (hR : RefR w b a cum S) (N : Int) :
    Calls Tryd.prog 32 #[.pointer (some ⟨b, 0, none⟩), .int .i64 N] w (rt fun v w' => ∃ a c, v = .slice a (gapS S N).length c ∧ Own w' w.heap.size 74 2 a (gapS S N).length c (gapV (gapS S N)) ∧ Same w w') := by
  refine F32_ok ?_
  unfold F32
  simp only [rdP_mk, rdI_mk]
  refine ⟨S.length + 1, r32_loop (w0 := w) hR S.length 0 w _ none 0 (by omega) (Fr.refl w) (Own.nil _ _ _ _) (.inr rfl) (by omega) (fun w' la c hf ho _g => ?_) fun w' la c hf ho _g => ?_⟩
  · simp only [rdC_mk]; exact ⟨la, c, rfl, ho, hf⟩
  · simp only [rdC_mk]; exact ⟨la, c, rfl, ho, hf⟩
end
end Go.Proofs.YtjcigidbnpmeaaaDoor
