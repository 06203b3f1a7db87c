/- Own text: part of the shallow reading of the code and of the contracts that are proved over it. -/
import Derived.Test.YtaiofglmcoojbaaScI
namespace Go.Proofs.Ytaiofglmcoojbaa
open Go Go.Sh
/-! what the laws ask of the plain schedule -/
section
variable {vs : List VW}
theorem cls_min (ho : okAll vs) {x : Nat} (hx : x ∈ cls vs) : ∀ i < vs.length, (gv vs x).st ≤ (gv vs i).st := by
  intro i hi
  have hoi := ho i hi
  unfold cls at hx
  split at hx
  · have := (ofS_lt hx).2; omega
  · rename_i n1
    have h1 : (gv vs i).st ≠ 1 := fun h => n1 (ofS_pos.2 ⟨i, hi, h⟩)
    split at hx
    · have := (ofS_lt hx).2; omega
    · rename_i n2
      have h2 : (gv vs i).st ≠ 2 := fun h => n2 (ofS_pos.2 ⟨i, hi, h⟩)
      have := (ofS_lt hx).2; omega
theorem nxt_cases (kind last : Int) (vs : List VW) : (nxt kind last vs = (0, false, ordE kind vs)) ∨ (ordE kind vs = 0 ∧ ∃ x : Nat, nxt kind last vs = ((x : Int), true, 0) ∧ (order kind last vs)[0]? = some x) := by
  unfold nxt
  cases hl : ordL kind last vs with
  | nil => exact .inl rfl
  | cons x r =>
    right
    have hE : ordE kind vs = 0 := by
      rcases Classical.em (ordE kind vs = 0) with h | h
      · exact h
      · rw [ordL_nil h] at hl; cases hl
    refine ⟨hE, x, rfl, ?_⟩
    unfold ordL at hl
    rw [hE, if_pos rfl] at hl
    rw [hl]; rfl
theorem order_head {kind last : Int} {x : Nat} (h : (order kind last vs)[0]? = some x) : x ∈ fit vs ∧ ∀ y ∈ fit vs, y ≠ x → lt kind last vs x y = true := head_isort (strict kind last vs) (fit_nodup vs) h
theorem ordE_chk {kind : Int} (h : chk vs ≠ 0) : ordE kind vs = chk vs := by unfold ordE; rw [if_pos h]
theorem nxt_bad {kind last : Int} (h : chk vs ≠ 0) : nxt kind last vs = (0, false, chk vs) := by
  rcases nxt_cases kind last vs with e | ⟨e, _⟩
  · rw [e, ordE_chk h]
  · rw [ordE_chk h] at e; exact absurd e h
theorem ag_bad {f : Int} (h : chk vs ≠ 0) : ag vs f = 0 ∧ agE vs f = chk vs := by
  have : agE vs f = chk vs := by unfold agE; rw [if_pos h]
  exact ⟨by unfold ag; rw [this, if_neg h], this⟩
theorem fold_spec {f : Nat} : ∀ (xs : List Nat) (best : Int), (best = -1 ∨ ∃ k, best = (k : Nat) ∧ k ≠ f) → (∀ r, r = xs.foldl (stepB vs f) best → (r = best ∨ ∃ k ∈ xs, r = (k : Nat) ∧ k ≠ f) ∧ (r = -1 → best = -1 ∧ ∀ k ∈ xs, k = f))
  | [], best, _, r, hr => by subst hr; exact ⟨.inl rfl, fun h => ⟨h, by simp⟩⟩
  | x :: xs, best, hb, r, hr => by
    rw [List.foldl_cons] at hr
    by_cases hs : (x : Int) ≠ (f : Int) ∧ (best < 0 ∨ (gv vs x).sp > (gv vs best.toNat).sp)
    · have e : stepB vs f best x = (x : Int) := by unfold stepB; rw [if_pos hs]
      rw [e] at hr
      have hxf : x ≠ f := fun h => hs.1 (by rw [h])
      obtain ⟨h1, h2⟩ := fold_spec xs x (.inr ⟨x, rfl, hxf⟩) r hr
      refine ⟨?_, fun h => ?_⟩
      · rcases h1 with h1 | ⟨k, hk, h1⟩
        · exact .inr ⟨x, by simp, h1, hxf⟩
        · exact .inr ⟨k, by simp [hk], h1⟩
      · have := (h2 h).1; omega
    · have e : stepB vs f best x = best := by unfold stepB; rw [if_neg hs]
      rw [e] at hr
      obtain ⟨h1, h2⟩ := fold_spec xs best hb r hr
      refine ⟨?_, fun h => ?_⟩
      · rcases h1 with h1 | ⟨k, hk, h1⟩
        · exact .inl h1
        · exact .inr ⟨k, by simp [hk], h1⟩
      · obtain ⟨h3, h4⟩ := h2 h
        refine ⟨h3, fun k hk => ?_⟩
        rcases List.mem_cons.1 hk with rfl | hk
        · rcases Classical.em (k = f) with h | h
          · exact h
          · exact absurd ⟨by omega, .inl (by omega)⟩ hs
        · exact h4 k hk
theorem mst_pos {f : Nat} {s : Int} (h : mst vs f s ≥ 0) : ∃ k < vs.length, mst vs f s = (k : Nat) ∧ (gv vs k).st = s ∧ k ≠ f := by
  obtain ⟨h1, _⟩ := fold_spec (vs := vs) (f := f) (ofS vs s) (-1) (.inl rfl) (mst vs f s) rfl
  rcases h1 with h1 | ⟨k, hk, h1, h2⟩
  · omega
  · exact ⟨k, (ofS_lt hk).1, h1, (ofS_lt hk).2, h2⟩
theorem mst_neg {f : Nat} {s : Int} (h : ¬ mst vs f s ≥ 0) : ∀ i < vs.length, i ≠ f → (gv vs i).st ≠ s := by
  obtain ⟨h1, h2⟩ := fold_spec (vs := vs) (f := f) (ofS vs s) (-1) (.inl rfl) (mst vs f s) rfl
  have hm : mst vs f s = -1 := by
    rcases h1 with h1 | ⟨k, _, h1, _⟩
    · exact h1
    · omega
  intro i hi hne hs
  have : i ∈ ofS vs s := by unfold ofS; rw [List.mem_filter]; exact ⟨List.mem_range.2 hi, by simpa using hs⟩
  exact hne ((h2 hm).2 i this)
theorem agn_spec (ho : okAll vs) {f : Nat} (hf : f < vs.length) : ∃ b < vs.length, agn vs f = (b : Nat) ∧ (∀ i < vs.length, (gv vs i).st < (gv vs b).st → i = f) ∧ (b = f → ∀ i < vs.length, i ≠ f → (gv vs f).st < (gv vs i).st) := by
  have hof := ho f hf
  unfold agn
  split
  · rename_i m1
    obtain ⟨k, hk, e, hs, hne⟩ := mst_pos m1
    exact ⟨k, hk, e, fun i hi h => by have := ho i hi; omega, fun h => absurd h hne⟩
  · rename_i m1
    have q1 := mst_neg m1
    split
    · rename_i t1
      exact ⟨f, hf, rfl, fun i hi h => by have := ho i hi; omega, fun _ i hi hne => by have := ho i hi; have := q1 i hi hne; omega⟩
    · rename_i t1
      split
      · rename_i m2
        obtain ⟨k, hk, e, hs, hne⟩ := mst_pos m2
        refine ⟨k, hk, e, fun i hi h => ?_, fun h => absurd h hne⟩
        rcases Classical.em (i = f) with h' | h'
        · exact h'
        · have := ho i hi; have := q1 i hi h'; omega
      · rename_i m2
        have q2 := mst_neg m2
        split
        · rename_i t2
          refine ⟨f, hf, rfl, fun i hi h => ?_, fun _ i hi hne => by have := ho i hi; have := q1 i hi hne; have := q2 i hi hne; omega⟩
          rcases Classical.em (i = f) with h' | h'
          · exact h'
          · have := ho i hi; have := q1 i hi h'; omega
        · rename_i t2
          split
          · rename_i m3
            obtain ⟨k, hk, e, hs, hne⟩ := mst_pos m3
            refine ⟨k, hk, e, fun i hi h => ?_, fun h => absurd h hne⟩
            rcases Classical.em (i = f) with h' | h'
            · exact h'
            · have := ho i hi; have := q1 i hi h'; have := q2 i hi h'; omega
          · rename_i m3
            have q3 := mst_neg m3
            refine ⟨f, hf, rfl, fun i hi h => ?_, fun _ i hi hne => ?_⟩
            · rcases Classical.em (i = f) with h' | h'
              · exact h'
              · have := ho i hi; have := q1 i hi h'; have := q2 i hi h'; have := q3 i hi h'; omega
            · have := ho i hi; have := q1 i hi hne; have := q2 i hi hne; have := q3 i hi hne; omega
/-! turns -/
theorem fit_sorted (vs : List VW) : (fit vs).Pairwise (· < ·) := by
  have hr : ∀ s, (ofS vs s).Pairwise (· < ·) := fun s => List.pairwise_lt_range.filter _
  unfold fit cls
  refine List.Pairwise.filter _ ?_
  split
  · exact hr 1
  · split <;> exact hr _
theorem fit_lt_of {i j x y : Nat} (hx : (fit vs)[i]? = some x) (hy : (fit vs)[j]? = some y) (hij : i < j) : x < y := by
  have h := fit_sorted vs
  rw [List.pairwise_iff_getElem] at h
  obtain ⟨h1, e1⟩ := List.getElem?_eq_some_iff.1 hx
  obtain ⟨h2, e2⟩ := List.getElem?_eq_some_iff.1 hy
  have := h i j h1 h2 hij
  rwa [e1, e2] at this
theorem head_is {last : Int} {z : Nat} (hz : z ∈ fit vs) (hm : ∀ y ∈ fit vs, y ≠ z → lt 0 last vs z y = true) : (order 0 last vs)[0]? = some z := by
  have hpos : 0 < (order 0 last vs).length := by
    unfold order; rw [len_isort]; exact List.length_pos_of_mem hz
  obtain ⟨x, hx⟩ : ∃ x, (order 0 last vs)[0]? = some x := ⟨(order 0 last vs)[0], by simp⟩
  obtain ⟨h1, h2⟩ := order_head hx
  rcases Classical.em (x = z) with h | h
  · rw [hx, h]
  · have a := hm x h1 h
    have b := h2 z hz (Ne.symm h)
    have := lt_irr a
    rw [b] at this; cases this
theorem nxt_of_head {last : Int} {x : Nat} (hc : chk vs = 0) (h : (order 0 last vs)[0]? = some x) : nxt 0 last vs = ((x : Int), true, 0) := by
  have hE : ordE 0 vs = 0 := by unfold ordE; rw [if_neg (by rw [hc]; decide), if_pos (by decide)]
  unfold nxt ordL
  rw [hE, if_pos rfl]
  cases hl : order 0 last vs with
  | nil => rw [hl] at h; cases h
  | cons y r => rw [hl] at h; simp at h; subst h; rfl
/-- from one fit path to the next -/
theorem next_fit (hc : chk vs = 0) {s : Nat} {x y : Nat} (hx : (fit vs)[s]? = some x) (hy : (fit vs)[(s + 1) % (fit vs).length]? = some y) : nxt 0 (x : Int) vs = ((y : Int), true, 0) := by
  have hs := (List.getElem?_eq_some_iff.1 hx).1
  have hxl := (fit_lt (List.mem_of_getElem? hx)).1
  refine nxt_of_head hc (head_is (List.mem_of_getElem? hy) fun z hz hne => ?_)
  obtain ⟨t, ht⟩ := List.getElem?_of_mem hz
  have htl := (List.getElem?_eq_some_iff.1 ht).1
  rw [lt_0]
  by_cases hl : s + 1 < (fit vs).length
  · rw [Nat.mod_eq_of_lt hl] at hy
    have hxy := fit_lt_of hx hy (by omega)
    rcases Nat.lt_trichotomy t (s + 1) with h | h | h
    · have hzx : z ≤ x := by
        rcases Nat.lt_or_eq_of_le (Nat.lt_succ_iff.1 h) with h' | h'
        · exact Nat.le_of_lt (fit_lt_of ht hx h')
        · subst h'; rw [hx] at ht; cases ht; exact Nat.le_refl _
      rw [if_pos ⟨by omega, by omega, by simp; omega⟩]; simp; omega
    · subst h; rw [hy] at ht; cases ht; exact absurd rfl hne
    · have hyz := fit_lt_of hy ht h
      rw [if_neg (fun hh => hh.2.2 (by simp; omega))]; simp; omega
  · have hs' : s + 1 = (fit vs).length := by omega
    rw [hs', Nat.mod_self] at hy
    have hzx : z ≤ x := by
      rcases Nat.lt_or_ge t s with h' | h'
      · exact Nat.le_of_lt (fit_lt_of ht hx h')
      · have : t = s := by omega
        subst this; rw [hx] at ht; cases ht; exact Nat.le_refl _
    have h0t : 0 < t := by
      rcases Nat.eq_zero_or_pos t with h | h
      · subst h; rw [hy] at ht; cases ht; exact absurd rfl hne
      · exact h
    have hyz := fit_lt_of hy ht h0t
    rw [if_neg (fun hh => hh.2.2 (by simp; omega))]; simp; omega
/-- the path of a first turn -/
theorem first_fit (hc : chk vs = 0) (hf : 0 < (fit vs).length) (last : Int) : ∃ (s x : Nat), (fit vs)[s]? = some x ∧ nxt 0 last vs = ((x : Int), true, 0) := by
  have hpos : 0 < (order 0 last vs).length := by unfold order; rw [len_isort]; exact hf
  obtain ⟨x, hx⟩ : ∃ x, (order 0 last vs)[0]? = some x := ⟨(order 0 last vs)[0], by simp⟩
  obtain ⟨s, hs⟩ := List.getElem?_of_mem (order_head hx).1
  exact ⟨s, x, hs, nxt_of_head hc hx⟩
theorem count_one : ∀ {l : List Nat} {x : Nat}, l.Nodup → x ∈ l → l.count x = 1
  | [], _, _, h => by cases h
  | a :: l, x, hn, h => by
    obtain ⟨h1, h2⟩ := List.nodup_cons.1 hn
    rcases List.mem_cons.1 h with e | h
    · subst e
      rw [List.count_cons_self, List.count_eq_zero.2 h1]
    · have hne : a ≠ x := fun e => h1 (e ▸ h)
      rw [List.count_cons_of_ne hne]
      exact count_one h2 h
/-- all turns, from a first one -/
def turns (vs : List VW) (s t : Nat) : List Nat := (List.range t).map fun j => (fit vs).getD ((s + j) % (fit vs).length) 0
theorem turns_succ (s t : Nat) : turns vs s (t + 1) = turns vs s t ++ [(fit vs).getD ((s + t) % (fit vs).length) 0] := by simp [turns, List.range_succ]
theorem turns_once {s : Nat} (hs : s < (fit vs).length) {x : Nat} (hx : x ∈ fit vs) : (turns vs s (fit vs).length).count x = 1 := by
  have e : turns vs s (fit vs).length = (fit vs).drop s ++ (fit vs).take s := by
    apply List.ext_getElem?
    intro j
    unfold turns
    rw [List.getElem?_map]
    rcases Nat.lt_or_ge j (fit vs).length with hj | hj
    · rw [List.getElem?_range hj]
      simp only [Option.map_some]
      rcases Nat.lt_or_ge j ((fit vs).length - s) with h | h
      · rw [List.getElem?_append_left (by rw [List.length_drop]; exact h), List.getElem?_drop, Nat.mod_eq_of_lt (by omega)]
        rw [List.getD_eq_getElem?_getD]
        have : s + j < (fit vs).length := by omega
        simp [this]
      · rw [List.getElem?_append_right (by rw [List.length_drop]; exact h), List.length_drop, List.getElem?_take]
        have hm : (s + j) % (fit vs).length = j - ((fit vs).length - s) := by
          rw [Nat.mod_eq_sub_mod (by omega), Nat.mod_eq_of_lt (by omega)]; omega
        rw [hm, if_pos (by omega), List.getD_eq_getElem?_getD]
        have : j - ((fit vs).length - s) < (fit vs).length := by omega
        simp [this]
    · rw [List.getElem?_eq_none (by simpa using hj), List.getElem?_eq_none (by simp; omega)]
      rfl
  rw [e, List.count_append, Nat.add_comm, ← List.count_append, List.take_append_drop]
  exact count_one (fit_nodup vs) hx
/-! paths that are not fit play no part -/
def dull (F : List Nat) (tr sp : Int) (vs : List VW) : List VW := (List.range vs.length).map fun i => if i ∈ F then gv vs i else { gv vs i with tr := tr, sp := sp, sh := false }
theorem dull_len {F : List Nat} {tr sp : Int} : (dull F tr sp vs).length = vs.length := by simp [dull]
theorem dull_gv {F : List Nat} {tr sp : Int} {i : Nat} (hi : i < vs.length) : gv (dull F tr sp vs) i = if i ∈ F then gv vs i else { gv vs i with tr := tr, sp := sp, sh := false } := by
  unfold dull gv
  simp [hi]
theorem insR_congr {f g : Nat → Nat → Bool} {x : Nat} : ∀ {r : List Nat}, (∀ a ∈ r, f x a = g x a) → insR f x r = insR g x r
  | [], _ => rfl
  | a :: r, h => by
    unfold insR
    rw [h a (by simp), insR_congr fun b hb => h b (List.mem_cons_of_mem _ hb)]
theorem isort_congr {f g : Nat → Nat → Bool} {xs : List Nat} (h : ∀ a ∈ xs, ∀ b ∈ xs, f a b = g a b) : isort f xs = isort g xs := by
  unfold isort
  congr 1
  have key : ∀ (ys r : List Nat), (∀ a ∈ ys, a ∈ xs) → (∀ a ∈ r, a ∈ xs) → ys.foldl (fun r x => insR f x r) r = ys.foldl (fun r x => insR g x r) r := by
    intro ys
    induction ys with
    | nil => intro r _ _; rfl
    | cons y ys ih =>
      intro r hy hr
      rw [List.foldl_cons, List.foldl_cons, insR_congr fun a ha => h y (hy y (by simp)) a (hr a ha)]
      refine ih _ (fun a ha => hy a (List.mem_cons_of_mem _ ha)) fun a ha => ?_
      rcases mem_insR.1 ha with rfl | ha
      · exact hy _ (by simp)
      · exact hr a ha
  exact key xs [] (fun _ h => h) (by simp)
theorem lt_congr {kind last : Int} {us vs : List VW} {i k : Nat} (hl : us.length = vs.length) (hi : gv us i = gv vs i) (hk : gv us k = gv vs k) : lt kind last us i k = lt kind last vs i k := by unfold lt; rw [hi, hk, hl]
theorem dull_next (hc : chk vs = 0) {tr sp : Int} (ht : 0 ≤ tr ∧ tr ≤ 1048576) (hsp : 0 ≤ sp ∧ sp ≤ 1073741824) (kind last : Int) : nxt kind last (dull (fit vs) tr sp vs) = nxt kind last vs := by
  obtain ⟨hn, hok⟩ := ok_of hc
  have hlen := dull_len (vs := vs) (F := fit vs) (tr := tr) (sp := sp)
  have hst : ∀ i < vs.length, (gv (dull (fit vs) tr sp vs) i).st = (gv vs i).st := fun i hi => by
    rw [dull_gv hi]; split <;> rfl
  have hcls : cls (dull (fit vs) tr sp vs) = cls vs := by
    have : ∀ s, ofS (dull (fit vs) tr sp vs) s = ofS vs s := fun s => by
      unfold ofS
      rw [hlen]
      apply List.filter_congr
      intro i hi
      rw [hst i (List.mem_range.1 hi)]
    unfold cls; simp only [this]
  have hfit : fit (dull (fit vs) tr sp vs) = fit vs := by
    have e0 : fit (dull (fit vs) tr sp vs) = (cls (dull (fit vs) tr sp vs)).filter (isFit (dull (fit vs) tr sp vs)) := rfl
    have e1 : fit vs = (cls vs).filter (isFit vs) := rfl
    rw [e0, hcls]
    refine Eq.trans ?_ e1.symm
    apply List.filter_congr
    intro i hi
    have hil := cls_lt hi
    unfold isFit
    rw [dull_gv hil]
    split
    · rfl
    · rename_i hnf
      have : isFit vs i = false := by
        rcases Bool.eq_false_or_eq_true (isFit vs i) with h | h
        · exact absurd (by unfold fit; rw [List.mem_filter]; exact ⟨hi, h⟩) hnf
        · exact h
      unfold isFit at this
      rw [this]; simp
  have hchk : chk (dull (fit vs) tr sp vs) = 0 := by
    refine chk_good (by rw [hlen]; omega) fun i hi => ?_
    rw [hlen] at hi
    rw [dull_gv hi]
    have := hok i hi
    split
    · exact this
    · unfold okV at this ⊢
      simp at this ⊢
      omega
  have hE : ordE kind (dull (fit vs) tr sp vs) = ordE kind vs := by unfold ordE; rw [hchk, hc]
  have hO : order kind last (dull (fit vs) tr sp vs) = order kind last vs := by
    unfold order
    rw [hfit]
    refine isort_congr fun a ha b hb => lt_congr hlen ?_ ?_
    · rw [dull_gv (fit_lt ha).1, if_pos ha]
    · rw [dull_gv (fit_lt hb).1, if_pos hb]
  unfold nxt ordL
  rw [hE, hO]
end
end Go.Proofs.Ytaiofglmcoojbaa
