/-
  A table: Stop, Len, New; a loop over its map.
-/
import Derived.Test.YtdagfdejjfobhaaTmE
namespace Go.Proofs.Ytdagfdejjfobhaa
open Go Go.Sh Go.Tm
/-! plain: a timer goes -/
def del (k : Int) (l : List Du) : List Du := l.filter fun d => decide (d.1 ≠ k)
theorem mem_del {k : Int} {l : List Du} {d : Du} : d ∈ del k l ↔ d ∈ l ∧ d.1 ≠ k := by unfold del; simp
theorem nodup_map_filter {l : List Du} (h : (l.map Prod.fst).Nodup) (p : Du → Bool) : ((l.filter p).map Prod.fst).Nodup := h.sublist (List.filter_sublist.map _)
theorem LI.del {l : List Du} (h : LI l) (k : Int) : LI (del k l) :=
  ⟨h.srt.sublist List.filter_sublist, nodup_map_filter h.ids _, fun d hd => h.rng d (mem_del.1 hd).1⟩
theorem mval_ext {l l' : List Du} (h : (l.map Prod.fst).Nodup) (h' : (l'.map Prod.fst).Nodup) (he : ∀ d, d ∈ l ↔ d ∈ l') (k : Int) : mval l k = mval l' k := by
  cases hm : mval l k with
  | some t => exact ((mval_iff h').2 ((he _).1 ((mval_iff h).1 hm))).symm
  | none =>
    cases hm' : mval l' k with
    | none => rfl
    | some t =>
      have := (mval_iff h).2 ((he _).2 ((mval_iff h').1 hm'))
      rw [hm] at this
      cases this
theorem mval_none {l : List Du} {k : Int} (h : ∀ d ∈ l, d.1 ≠ k) : mval l k = none := by
  induction l with
  | nil => rfl
  | cons p l ih =>
    simp only [mval]
    rw [if_neg fun e => h p (by simp) e.symm]
    exact ih fun d hd => h d (by simp [hd])
theorem mval_del {l : List Du} (h : (l.map Prod.fst).Nodup) (k j : Int) : mval (del k l) j = if j = k then none else mval l j := by
  by_cases hj : j = k
  · rw [if_pos hj]
    exact mval_none fun d hd => by rw [hj]; exact (mem_del.1 hd).2
  · rw [if_neg hj]
    cases hm : mval l j with
    | none =>
      refine mval_none fun d hd e => ?_
      have := (mval_iff h (k := d.1) (t := d.2)).2 (mem_del.1 hd).1
      rw [e, hm] at this
      cases this
    | some t => exact (mval_iff (nodup_map_filter h _)).2 (mem_del.2 ⟨(mval_iff h).1 hm, hj⟩)
theorem TI.stop {n : Nat} {h : Nat → Du} {f : Int → Option Int} {l : List Du} (t : TI n h f l) (k : Int) : TI n h (updF f k none) (del k l) :=
  ⟨t.li.del k, t.hp, fun d hd => t.has d (mem_del.1 hd).1, t.few, updF_mval t.map fun j => mval_del t.li.ids k j⟩
section
variable {W w : World} {L M P : List HP} {tb lc m n nn i j : Nat} {la : Option Addr} {h h0 : Nat → Du} {last : Int} {f : Int → Option Int} {l : List Du}
theorem c15 (t : TB W [] L tb last l w) (id : Int) : Calls Try.prog 15 #[.pointer (some ⟨tb, 0, none⟩), .int .i64 id] w (rt fun v w' =>
    (¬ isI id ∧ v = .tuple #[.bool false, .int .i64 1] ∧ TB W [] L tb last l w') ∨ (isI id ∧ v = .tuple #[.bool (mval l id).isSome, .int .i64 0] ∧ TB W [] L tb last (del id l) w')) := by
  refine F15_ok ?_
  unfold F15
  simp only [rdP_mk, rdI_mk]
  refine clr (c22 t id) ⟨_, rfl, ?_⟩
  by_cases hi : isI id
  · rw [if_pos hi, show ((0 : Int) != 0) = false from rfl, br_false]
    obtain ⟨la, lc, m, n, h, f, a, hs⟩ := t
    simp only [nn_some, add_mk]
    refine hs.ldM 0 rfl rfl ⟨_, _, look_int_ok u3 z3v (hs.map 2 rfl), ?_⟩
    refine hs.ldM 0 rfl rfl ?_
    obtain ⟨o, hr, hm⟩ := delete_int (P := Try.prog) (ats := #[51, 3]) (ty := 0) (k := id) rfl u51 u3 (hs.map 2 rfl)
    refine ⟨_, hr, .inr ⟨hi, by rw [a.map], ?_⟩⟩
    refine ⟨la, lc, m, n, h, _, a.stop id, ?_⟩
    exact hs.map_turn 2 rfl (Fr.refl w |>.sb (fun _ => rfl)) hm
  · rw [if_neg hi, show ((1 : Int) != 0) = true from rfl, br_true]
    exact .inl ⟨hi, rfl, t⟩
/-- how many entries a map has -/
theorem nodup_same_len {a b : List Int} (ha : a.Nodup) (hb : b.Nodup) (h : ∀ x, x ∈ a ↔ x ∈ b) : a.length = b.length := by
  have key : ∀ (a b : List Int), a.Nodup → (∀ x ∈ a, x ∈ b) → a.length ≤ b.length := by
    intro a
    induction a with
    | nil => intro b _ _; exact Nat.zero_le _
    | cons x a ih =>
      intro b hn hs
      simp only [List.nodup_cons] at hn
      have h1 := ih (b.erase x) hn.2 fun y hy => (List.mem_erase_of_ne fun e => hn.1 (by rw [← e]; exact hy)).2 (hs y (by simp [hy]))
      have h2 := List.length_erase_of_mem (hs x (by simp))
      have h3 : 0 < b.length := List.length_pos_of_mem (hs x (by simp))
      simp only [List.length_cons]
      omega
  exact Nat.le_antisymm (key a b ha fun x hx => (h x).1 hx) (key b a hb fun x hx => (h x).2 hx)
theorem mval_mem_fst {l : List Du} {k : Int} : k ∈ l.map Prod.fst ↔ (mval l k).isSome = true := by
  constructor
  · intro h
    obtain ⟨u, hu⟩ := mval_mem h
    rw [hu]; rfl
  · intro h
    induction l with
    | nil => cases h
    | cons p l ih =>
      simp only [mval] at h
      by_cases hk : k = p.1
      · simp [hk]
      · rw [if_neg hk] at h
        simp only [List.map_cons, List.mem_cons]
        exact .inr (ih h)
theorem map_size {es : Array MapEntry} {l0 l : List Du} {c : Nat} (h1 : MRep .i64 .i64 es.toList l0) (h2 : (l0.map Prod.fst).Nodup) (h3 : ∀ k, mval l0 k = mval l k) (h4 : (l.map Prod.fst).Nodup) : es.size = l.length := by
  have e1 : es.size = l0.length := by
    have := congrArg List.length h1
    simpa using this
  have := nodup_same_len h2 h4 fun x => by rw [mval_mem_fst, mval_mem_fst, h3]
  simp only [List.length_map] at this
  omega
theorem c16 (t : TB W [] L tb last l w) : Calls Try.prog 16 #[.pointer (some ⟨tb, 0, none⟩)] w (rt (KR (.int .i64 (l.length : Int)) w)) := by
  refine F16_ok ?_
  unfold F16
  simp only [rdP_mk]
  refine clr (c27 t) ⟨_, rfl, ?_⟩
  rw [Bool.not_true, br_false]
  obtain ⟨la, lc, m, n, h, f, a, hs⟩ := t
  simp only [nn_some, add_mk]
  refine hs.ldM 0 rfl rfl ?_
  obtain ⟨es, c, l0, h1, h2, h3, h4, h5⟩ := hs.map 2 rfl
  exact ⟨_, _, Go.Sh.run_len_map (P := Try.prog) rfl u51 h1 (map_size (c := c) h2 h3 (fun k => (h4 k).trans (a.map k)) a.li.ids), rfl, rfl⟩
theorem TI.empty : TI 0 (fun _ => (0, 0)) (fun _ => none) [] := ⟨LI.nil, fun k _ h => by omega, by simp, by omega, fun _ => rfl⟩
theorem c7 (h : Hs W L w) : Calls Try.prog 7 #[] w (rt fun v w' => ∃ tb, v = .pointer (some ⟨tb, 0, none⟩) ∧ TB W [] L tb 0 [] w') := by
  refine F7_ok ?_
  unfold F7
  have h1 := h.map_new .i64 .i64
  have h2 := h1.alloc (.cells #[.slice none 0 0, .func (.func 20) #[] #[], .map (some w.heap.size), .int .i64 0] 53)
  refine ⟨_, rfl, none, 0, w.heap.size, 0, _, _, TI.empty, ?_⟩
  have h3 := h2.nil 30 2
  have h4 := h3.perm (List.Perm.swap _ _ _)
  exact h4
end
end Go.Proofs.Ytdagfdejjfobhaa
