/- Own text: part of the shallow reading of the code and of the contracts that are proved over it. -/
import Derived.Test.YtaiofglmcoojbaaScE
namespace Go.Proofs.Ytaiofglmcoojbaa
open Go Go.Sh
section
variable {W w : World} {L M : List HP} {va : Option Addr} {vs : List VW} {vc : Nat}
theorem run_b23 (w : World) : Sem.run Try.prog (Instr.buildSlice 23 0 #[]) w = .ok (.slice (some ⟨w.heap.size, 0, none⟩) 0 0) (w.alloc (.cells #[] 3)) := by kernel_rfl
theorem own_nilc {w : World} {base : Nat} {e : TypeId} {s l c : Nat} {a : Option Addr} {xs : List Value} (h : Own w base e s a l c xs) : a = none → c = 0 := by
  rcases h.cases with ⟨_, _, hc⟩ | ⟨g, cur, ha, _⟩
  · exact fun _ => hc
  · intro h; rw [h] at ha; cases ha
theorem own_tail {w : World} {base : Nat} {e : TypeId} {s l c : Nat} {a : Option Addr} {xs : List Value} (h : Own w base e s a l c xs) {j : Nat} (hj : j ≤ l) : Rd w (if c = j then a else a.map (·.add (j * s))) (xs.drop (j * s)) ∧ ((if c = j then a else a.map (·.add (j * s))) = none → c - j = 0) := by
  cases a with
  | none =>
    have hc := own_nilc h rfl
    have hl := h.le
    have hlen := h.length
    have h0 : l = 0 := by omega
    subst h0
    have : xs = [] := by simpa using hlen
    subst this
    refine ⟨by simp [Rd.nil], fun _ => by omega⟩
  | some ad =>
    obtain ⟨b, hb, hr⟩ := h.tail hj
    rw [hb]
    exact ⟨hr, fun h => by cases h⟩
theorem tw_take {α : Type} {p : α → Bool} : ∀ {l : List α} {n : Nat}, n ≤ l.length → (∀ k < n, ∀ a, l[k]? = some a → p a = true) → (n = l.length ∨ ∃ a, l[n]? = some a ∧ p a = false) → l.takeWhile p = l.take n ∧ l.dropWhile p = l.drop n
  | [], n, hn, _, _ => by simp at hn; subst hn; simp
  | b :: l, 0, _, _, h => by
    rcases h with h | ⟨a, h1, h2⟩
    · simp at h
    · simp at h1; subst h1
      rw [List.takeWhile_cons, List.dropWhile_cons, h2]; simp
  | b :: l, n + 1, hn, hp, h => by
    have hb := hp 0 (by omega) b rfl
    obtain ⟨e1, e2⟩ := tw_take (p := p) (l := l) (n := n) (by simpa using hn) (fun k hk a ha => hp (k + 1) (by omega) a (by simpa using ha)) (by
      rcases h with h | ⟨a, h1, h2⟩
      · exact .inl (by simpa using h)
      · exact .inr ⟨a, by simpa using h1, h2⟩)
    rw [List.takeWhile_cons, List.dropWhile_cons, hb, if_pos rfl, if_pos rfl, e1, e2]
    simp
theorem inV_take (xs : List Nat) (n : Nat) : (inV xs).take (n * 1) = inV (xs.take n) := by simp [inV, List.map_take]
theorem inV_drop (xs : List Nat) (n : Nat) : (inV xs).drop (n * 1) = inV (xs.drop n) := by simp [inV, List.map_drop]
theorem inV_append (xs ys : List Nat) : inV (xs ++ ys) = inV xs ++ inV ys := by simp [inV]
theorem inV_one (xs : List Nat) : ∀ u ∈ inV xs, u.oneCell' = true := fun u hu => by
  obtain ⟨x, _, rfl⟩ := List.mem_map.1 hu
  rfl
theorem insL_len {f : Nat → Nat → Bool} {x : Nat} {l : List Nat} : (insL f x l).length = l.length + 1 := by
  unfold insL
  rw [List.length_append, List.length_cons]
  have := congrArg List.length (List.takeWhile_append_dropWhile (p := fun a => f a x) (l := l))
  rw [List.length_append] at this
  omega
theorem insL_mem {f : Nat → Nat → Bool} {x y : Nat} {l : List Nat} (h : y ∈ insL f x l) : y = x ∨ y ∈ l := by
  unfold insL at h
  rcases List.mem_append.1 h with h | h
  · exact .inr ((List.takeWhile_sublist _).subset h)
  · rcases List.mem_cons.1 h with h | h
    · exact .inl h
    · exact .inr ((List.dropWhile_sublist _).subset h)
theorem c9 (hv : Rd w va (vs.flatMap vwC)) (kind last : Int) : Calls Try.prog 9 #[.int .i64 kind, .int .i64 last, .slice va vs.length vc] w (rt fun v w' => ∃ a c, v = .tuple #[.slice a (ordL kind last vs).length c, .int .i64 (ordE kind vs)] ∧ Own w' w.heap.size 3 1 a (ordL kind last vs).length c (inV (ordL kind last vs)) ∧ Same w w') := by
  refine F9_ok ?_
  unfold F9
  simp only [rdI_mk, rdC_mk]
  refine cl (c14 hv) ?_
  rintro _ w1 ⟨rfl, s1⟩
  refine ⟨_, rfl, ?_⟩
  have bad : ∀ e : Int, e ≠ 0 → ordE kind vs = e → ∃ a c, (.tuple #[.slice none 0 0, .int .i64 e] : Value) = .tuple #[.slice a (ordL kind last vs).length c, .int .i64 (ordE kind vs)] ∧ Own w1 w.heap.size 3 1 a (ordL kind last vs).length c (inV (ordL kind last vs)) ∧ Same w w1 := fun e he h => by
    rw [ordL_nil (by rw [h]; exact he), h]
    exact ⟨none, 0, rfl, Own.nil _ _ _ _, s1⟩
  by_cases hc : chk vs ≠ 0
  · have e1 : (chk vs != 0) = true := by simpa using hc
    rw [e1, br_true]
    exact bad _ hc (by unfold ordE; rw [if_pos hc])
  replace hc : chk vs = 0 := Classical.not_not.1 hc
  obtain ⟨hn, _⟩ := ok_of hc
  have ho := okAll_of hc
  rw [hc, show ((0 : Int) != 0) = false from rfl, br_false]
  simp only [br_dec]
  refine ⟨fun hk => bad 5 (by decide) (by unfold ordE; rw [if_neg (by rw [hc]; decide), if_neg (by omega)]), fun hk => ⟨fun hk2 => bad 5 (by decide) (by unfold ordE; rw [if_neg (by rw [hc]; decide), if_neg (by omega)]), fun hk2 => ?_⟩⟩
  have hE : ordE kind vs = 0 := by unfold ordE; rw [if_neg (by rw [hc]; decide), if_pos (by omega)]
  have hL : ordL kind last vs = (fit vs).foldl (fun l x => insL (lt kind last vs) x l) [] := by
    unfold ordL; rw [hE, if_pos rfl]; exact isort_eq (strict kind last vs) (fit_nodup vs)
  unfold F9_3
  simp only [rdI_mk, rdC_mk]
  have hv1 : Rd w1 va (vs.flatMap vwC) := hv.fr s1 fun _ _ x => x
  refine cl (c18 hv1 hn.2 ho) ?_
  rintro _ w2 ⟨fa, fc, rfl, o2, s2⟩
  refine ⟨_, _, _, rfl, ?_⟩
  have h2 := ((Hs.start w).same s1).own_new s2 o2
  have hfl := fit_len vs
  have inner : ∀ (i j : Nat) (out : List Nat) (x : Nat) (oa : Option Addr) (oc n6 : Nat) (w3 : World) (k : Nat) (K2 : Value → Value → Value → Value → Value → Value → Value → World → Prop), j + i = out.length → (∀ y ∈ out, y < vs.length) → (fit vs)[n6]? = some x → Hs w [slP 3 1 oa out.length oc (inV out), slP 3 1 fa (fit vs).length fc (inV (fit vs))] w3 → (∀ q < j, ∀ a, out[q]? = some a → lt kind last vs a x = true) → i < k →
      (∀ w' n, Hs w [slP 3 1 oa out.length oc (inV out), slP 3 1 fa (fit vs).length fc (inV (fit vs))] w' → n ≤ out.length → out.takeWhile (fun a => lt kind last vs a x) = out.take n → out.dropWhile (fun a => lt kind last vs a x) = out.drop n → K2 (.int .i64 kind) (.int .i64 last) (.slice va vs.length vc) (.slice oa out.length oc) (.slice fa (fit vs).length fc) (.int .i64 (n6 : Int)) (.int .i64 (n : Int)) w') →
      F9_1 K2 k (.int .i64 kind) (.int .i64 last) (.slice va vs.length vc) (.slice oa out.length oc) (.slice fa (fit vs).length fc) (.int .i64 (n6 : Int)) (.int .i64 (j : Int)) w3 := by
    intro i
    induction i with
    | zero =>
      intro j out x oa oc n6 w3 k K2 hj hout hx hw hq hk hK
      obtain ⟨k, rfl⟩ : ∃ j, k = j + 1 := ⟨k - 1, by omega⟩
      show F9_1B _ _ _ _ _ _ _ _ _ _
      unfold F9_1B drw
      simp only [rdC_mk, rdI_mk, br_dec]
      refine ⟨fun h => by exfalso; omega, fun _ => ?_⟩
      obtain ⟨e1, e2⟩ := tw_take (p := fun a => lt kind last vs a x) (l := out) (n := j) (by omega) hq (.inl (by omega))
      exact hK _ j hw.drew (by omega) e1 e2
    | succ i ih =>
      intro j out x oa oc n6 w3 k K2 hj hout hx hw hq hk hK
      obtain ⟨k, rfl⟩ : ∃ j, k = j + 1 := ⟨k - 1, by omega⟩
      show F9_1B _ _ _ _ _ _ _ _ _ _
      unfold F9_1B drw
      simp only [rdC_mk, rdI_mk, br_dec]
      refine ⟨fun _ => ?_, fun h => by exfalso; omega⟩
      have h4 := hw.drew
      generalize w3.drew = w4 at h4 ⊢
      obtain ⟨y, hy⟩ : ∃ y, out[j]? = some y := ⟨out[j]'(by omega), by simp⟩
      have hr0 := h4.rd 0 rfl
      have hr1 := h4.rd 1 rfl
      obtain ⟨od, hod⟩ := hr0.some (by rw [inV_length]; omega)
      have hnl := (List.getElem?_eq_some_iff.1 hx).1
      obtain ⟨fd, hfd⟩ := hr1.some (by rw [inV_length]; omega)
      have e1 : IntKind.wrap .i64 ((j : Int) + 1) = ((j + 1 : Nat) : Int) := by
        have : out.length ≤ maxLen := by
          rcases (h4.own 0 rfl).cases with ⟨_, h, _⟩ | ⟨_, _, _, _, _, h, h', _⟩
          · omega
          · omega
        unfold maxLen at this
        rw [wrap_i64 (by omega) (by omega)]; omega
      subst hod; subst hfd
      refine ixS_of (by omega) (by omega) ?_
      rw [Int.toNat_natCast, Nat.mul_one]
      refine ldI_c (hr0.at (inV_at hy)) (ixS_of (by omega) (by omega) ?_)
      rw [Int.toNat_natCast, Nat.mul_one]
      refine ldI_c (hr1.at (inV_at hx)) ?_
      have hxl := (fit_lt (List.mem_of_getElem? hx)).1
      refine cl (c27 (h4.rd_old hv) kind last (hout y (List.mem_of_getElem? hy)) hxl) ?_
      rintro _ w5 ⟨rfl, s5⟩
      refine ⟨_, rfl, ?_⟩
      have h5 := h4.same s5
      rw [br_iff, e1]
      refine ⟨fun hb => ?_, fun hb => ?_⟩
      · refine ih (j + 1) out x _ oc n6 w5 k K2 (by omega) hout hx h5 (fun q hq' a ha => ?_) (by omega) hK
        rcases Nat.lt_succ_iff_lt_or_eq.1 hq' with h | rfl
        · exact hq q h a ha
        · rw [hy] at ha; cases ha; exact hb
      · obtain ⟨e2, e3⟩ := tw_take (p := fun a => lt kind last vs a x) (l := out) (n := j) (by omega) hq (.inr ⟨y, hy, hb⟩)
        exact hK w5 j h5 (by omega) e2 e3
  have outer : ∀ (ys : List Nat) (n6 : Nat) (out : List Nat) (oa : Option Addr) (oc : Nat) (w3 : World) (k : Nat) (K0 : Value → World → Prop), (fit vs).drop n6 = ys → n6 + ys.length = (fit vs).length → out.length = n6 → (∀ y ∈ out, y < vs.length) → Hs w [slP 3 1 oa out.length oc (inV out), slP 3 1 fa (fit vs).length fc (inV (fit vs))] w3 → ys.length < k →
      (∀ w' a c, Hs w [slP 3 1 a (ys.foldl (fun l x => insL (lt kind last vs) x l) out).length c (inV (ys.foldl (fun l x => insL (lt kind last vs) x l) out)), slP 3 1 fa (fit vs).length fc (inV (fit vs))] w' → K0 (.slice a (ys.foldl (fun l x => insL (lt kind last vs) x l) out).length c) w') →
      F9_2 K0 k (.int .i64 kind) (.int .i64 last) (.slice va vs.length vc) (.slice oa out.length oc) (.slice fa (fit vs).length fc) (.int .i64 (n6 : Int)) w3 := by
    intro ys
    induction ys with
    | nil =>
      intro n6 out oa oc w3 k K0 hd hl ho' hout hw hk hK
      obtain ⟨k, rfl⟩ : ∃ j, k = j + 1 := ⟨k - 1, by omega⟩
      show F9_2B _ _ _ _ _ _ _ _ _
      unfold F9_2B
      simp only [rdC_mk, rdI_mk, br_dec]
      simp only [List.length_nil] at hl
      exact ⟨fun h => by exfalso; omega, fun _ => hK w3 oa oc hw⟩
    | cons x ys ih =>
      intro n6 out oa oc w3 k K0 hd hl ho' hout hw hk hK
      obtain ⟨k, rfl⟩ : ∃ j, k = j + 1 := ⟨k - 1, by omega⟩
      show F9_2B _ _ _ _ _ _ _ _ _
      unfold F9_2B
      simp only [rdC_mk, rdI_mk, br_dec]
      simp only [List.length_cons] at hl hk
      refine ⟨fun _ => ⟨out.length + 1, ?_⟩, fun h => by exfalso; omega⟩
      have hx : (fit vs)[n6]? = some x := by
        have := congrArg (·[0]?) hd
        simpa using this
      have hd' : (fit vs).drop (n6 + 1) = ys := by rw [← List.drop_drop, hd]; rfl
      have e0 : ((0 : Nat) : Int) = 0 := rfl
      have hin := inner out.length 0 out x oa oc n6 w3 (out.length + 1)
      rw [e0] at hin
      refine hin _ (by omega) hout hx hw (fun q h => by omega) (by omega) fun w4 n h4 hnl e2 e3 _g => ?_
      simp only [rdI_mk, rdC_mk]
      refine ⟨_, _, _, _, run_b23 w4, ?_⟩
      have h5 := h4.void 3 1
      generalize w4.alloc (.cells #[] 3) = w5 at h5 ⊢
      have oo := h5.own 1 rfl
      have hle := oo.le
      refine slS_hi (by omega) ?_
      refine h5.appendA E23 0 rfl (news := inV (out.take n)) (by rw [inV_length, List.length_take]; omega) (by rw [← inV_take]; exact (oo.cut hnl).rd) (own_nilc oo) (inV_one _) (by omega) (by omega) ?_
      intro a6 c6 w6 h6 _
      simp only [Nat.zero_add, List.nil_append] at h6 ⊢
      obtain ⟨fd, hfd⟩ := (h6.rd 2 rfl).some (by rw [inV_length]; omega)
      subst hfd
      refine ixS_of (by omega) (by omega) ?_
      rw [Int.toNat_natCast, Nat.mul_one]
      refine ldI_c ((h6.rd 2 rfl).at (inV_at hx)) ?_
      unfold alc
      refine h6.push E23 0 rfl (news := #[_]) rfl (by simp [Value.oneCell']) (by omega) (by omega) ?_
      intro a7 c7 w7 h7
      have o7 := h7.own 1 rfl
      refine slS_lo hnl ?_
      obtain ⟨ht, htn⟩ := own_tail o7 hnl
      rw [inV_drop] at ht
      refine h7.appendA E23 0 rfl (by rw [inV_length, List.length_drop]; omega) ht htn (inV_one _) (by omega) (by omega) ?_
      intro a8 c8 w8 h8 _
      have hins : insL (lt kind last vs) x out = out.take n ++ x :: out.drop n := by unfold insL; rw [e2, e3]
      have hlen : n + 1 + (out.length - n) = (insL (lt kind last vs) x out).length := by rw [insL_len]; omega
      have hcells : inV (out.take n) ++ [Value.int .i64 (x : Int)] ++ inV (out.drop n) = inV (insL (lt kind last vs) x out) := by rw [hins]; simp [inV]
      have ew : IntKind.wrap .i64 ((n6 : Int) + 1) = ((n6 + 1 : Nat) : Int) := by rw [wrap_i64 (by omega) (by omega)]; omega
      rw [ew, hlen]
      refine ih (n6 + 1) (insL (lt kind last vs) x out) a8 c8 w8 k K0 hd' (by omega) (by rw [insL_len]; omega) (fun y hy => ?_) ?_ (by omega) hK
      · rcases insL_mem hy with rfl | hy
        · exact (fit_lt (List.mem_of_getElem? hx)).1
        · exact hout y hy
      · have h9 := h8.erase 1
        rw [← hlen, ← hcells]
        exact h9
  have e0 : ((0 : Nat) : Int) = 0 := rfl
  have ho := outer (fit vs) 0 [] none 0 w2 ((fit vs).length + 1)
  rw [e0] at ho
  refine ⟨(fit vs).length + 1, ho _ rfl (by omega) rfl (by simp) (h2.nil 3 1) (by omega) fun w' a c h' _g => ?_⟩
  simp only [rdC_mk, rdI_mk]
  intro _g
  rw [hL, hE]
  exact ⟨a, c, rfl, h'.own 0 rfl, h'.1⟩
theorem c11 (hv : Rd w va (vs.flatMap vwC)) (kind last : Int) : Calls Try.prog 11 #[.int .i64 kind, .int .i64 last, .slice va vs.length vc] w (rt fun v w' => v = nxtV (nxt kind last vs) ∧ Same w w') := by
  refine F11_ok ?_
  unfold F11
  simp only [rdI_mk, rdC_mk]
  refine cl (c9 hv kind last) ?_
  rintro _ w1 ⟨a, c, rfl, o, s⟩
  refine ⟨_, _, _, _, rfl, ?_⟩
  unfold nxt
  by_cases he : ordE kind vs = 0
  · rw [he, show ((0 : Int) != 0) = false from rfl, br_false]
    cases hl : ordL kind last vs with
    | nil =>
      rw [show ((([] : List Nat).length : Int) == 0) = true from rfl, br_true]
      exact ⟨rfl, s⟩
    | cons x r =>
      have e1 : ((((x :: r).length : Nat) : Int) == 0) = false := by simp; omega
      rw [e1, br_false]
      rw [hl] at o
      obtain ⟨ad, rfl⟩ := o.rd.some (by simp [inV])
      refine ixS_of (by omega) (by simp <;> omega) ?_
      exact ldI_c (o.rd.at (j := 0) rfl) ⟨rfl, s⟩
  · have e1 : (ordE kind vs != 0) = true := by simpa using he
    rw [e1, br_true, ordL_nil he]
    exact ⟨rfl, s⟩
end
end Go.Proofs.Ytaiofglmcoojbaa
