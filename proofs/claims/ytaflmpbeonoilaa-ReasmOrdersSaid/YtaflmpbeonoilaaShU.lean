/-
  Lists of records laid out flat; parts of lists of assertions.
-/
import Derived.Test.YtaflmpbeonoilaaShT
import Derived.Laws.OwnMore
namespace Go.Sh
open Go
section
variable {α β : Type} {f : α → List β} {m : Nat}
theorem flat_length (hf : ∀ a, (f a).length = m) (l : List α) : (l.flatMap f).length = l.length * m := by
  induction l with
  | nil => simp
  | cons a l ih => rw [List.flatMap_cons, List.length_append, hf, ih, List.length_cons, Nat.add_mul, Nat.one_mul, Nat.add_comm]
theorem flat_get (hf : ∀ a, (f a).length = m) {l : List α} {i j : Nat} {a : α} (h : l[i]? = some a) (hj : j < m) : (l.flatMap f)[i * m + j]? = (f a)[j]? := by
  induction l generalizing i with
  | nil => simp at h
  | cons b l ih =>
    rw [List.flatMap_cons]
    cases i with
    | zero =>
      simp at h; subst h
      rw [Nat.zero_mul, Nat.zero_add, List.getElem?_append_left (by rw [hf]; exact hj)]
    | succ i =>
      rw [List.getElem?_append_right (by rw [hf, Nat.add_mul]; omega), ← ih (by simpa using h)]
      congr 1
      rw [hf, Nat.add_mul]; omega
theorem flat_set (hf : ∀ a, (f a).length = m) {l : List α} {i j : Nat} {a a' : α} {v : β} (h : l[i]? = some a) (hj : j < m) (hv : f a' = (f a).set j v) : (l.set i a').flatMap f = (l.flatMap f).set (i * m + j) v := by
  induction l generalizing i with
  | nil => simp at h
  | cons b l ih =>
    cases i with
    | zero =>
      simp at h; subst h
      rw [List.set_cons_zero, List.flatMap_cons, List.flatMap_cons, Nat.zero_mul, Nat.zero_add, List.set_append_left _ _ (by rw [hf]; exact hj), hv]
    | succ i =>
      rw [List.set_cons_succ, List.flatMap_cons, List.flatMap_cons, List.set_append_right _ _ (by rw [hf, Nat.add_mul]; omega), ih (by simpa using h)]
      congr 2
      rw [hf, Nat.add_mul]; omega
theorem flat_take (hf : ∀ a, (f a).length = m) (l : List α) (n : Nat) : (l.flatMap f).take (n * m) = (l.take n).flatMap f := by
  induction l generalizing n with
  | nil => simp
  | cons a l ih =>
    cases n with
    | zero => simp
    | succ n =>
      rw [List.flatMap_cons, List.take_succ_cons, List.flatMap_cons, ← ih n, List.take_append]
      congr 1
      · rw [List.take_of_length_le]; rw [hf, Nat.add_mul]; omega
      · congr 1; rw [hf, Nat.add_mul]; omega
theorem flat_drop (hf : ∀ a, (f a).length = m) (l : List α) (n : Nat) : (l.flatMap f).drop (n * m) = (l.drop n).flatMap f := by
  induction l generalizing n with
  | nil => simp
  | cons a l ih =>
    cases n with
    | zero => simp
    | succ n =>
      rw [List.flatMap_cons, List.drop_succ_cons, ← ih n, List.drop_append]
      rw [List.drop_of_length_le (by rw [hf, Nat.add_mul]; omega), List.nil_append]
      congr 1; rw [hf, Nat.add_mul]; omega
theorem flat_at (hf : ∀ a, (f a).length = m) {l : List α} {i j : Nat} {a : α} {v : β} (h : l[i]? = some a) (hv : (f a)[j]? = some v) : (l.flatMap f)[i * m + j]? = some v := by
  rw [flat_get hf h, hv]
  have := (List.getElem?_eq_some_iff.1 hv).1
  rwa [hf] at this
end
theorem split_of {α : Type} {l : List α} {k : Nat} {d : α} (h : l[k]? = some d) : l = l.take k ++ d :: l.drop (k + 1) := by
  have hk := (List.getElem?_eq_some_iff.1 h).1
  have e := (List.getElem?_eq_some_iff.1 h).2
  have h1 := List.take_append_drop k l
  rw [List.drop_eq_getElem_cons hk, e] at h1
  exact h1.symm
theorem perm_out {α : Type} {l : List α} {i : Nat} {x : α} (h : l[i]? = some x) : l.Perm (x :: l.eraseIdx i) := by
  rw [List.eraseIdx_eq_take_drop_succ]
  exact (List.Perm.of_eq (split_of h)).trans List.perm_middle
theorem set_id {α : Type} {l : List α} {k : Nat} {d : α} (h : l[k]? = some d) : l.set k d = l := by
  have hk := (List.getElem?_eq_some_iff.1 h).1
  rw [List.set_eq_take_append_cons_drop, if_pos hk]
  exact (split_of h).symm
theorem Pres.of_Same {w w' : World} (h : Same w w') : Pres w w' :=
  ⟨h.size, fun a v hv => by rw [← hv]; exact World.cell?_of_block (h.block _ (World.block_lt_of_cell? w a hv) fun x => x), fun r es c hr => h.blk hr fun x => x⟩
section
variable {W w : World} {A B C D : HP} {L M : List HP}
/-- one of a row of like parts, ahead -/
theorem Hs.part {α : Type} {F : α → HP} {l : List α} {i : Nat} {x : α} (hi : l[i]? = some x) (h : Hs W (M ++ l.map F) w) : Hs W (F x :: (M ++ (l.map F).eraseIdx i)) w := by
  have hpm := perm_out (l := l.map F) (i := i) (x := F x) (by simp [hi])
  exact h.perm ((List.Perm.append_left M hpm).trans List.perm_middle)
theorem Hs.unpart {α : Type} {F : α → HP} {l : List α} {i : Nat} {x : α} (hi : i < l.length) (h : Hs W (F x :: (M ++ (l.map F).eraseIdx i)) w) : Hs W (M ++ (l.set i x).map F) w := by
  have hpm := perm_out (l := (l.set i x).map F) (i := i) (x := F x) (by simp [hi])
  have e : ((l.set i x).map F).eraseIdx i = (l.map F).eraseIdx i := by rw [List.map_set, List.eraseIdx_set_eq]
  rw [e] at hpm
  exact h.perm ((List.Perm.append_left M hpm).trans List.perm_middle).symm
theorem Hs.behind (h : Hs W (A :: (L ++ M)) w) : Hs W (L ++ A :: M) w := h.perm List.perm_middle.symm
theorem Hs.ahead (h : Hs W (L ++ A :: M) w) : Hs W (A :: (L ++ M)) w := h.perm List.perm_middle
/-- a new slice with nothing in it -/
theorem Hs.void (h : Hs W L w) (e : TypeId) (size : Nat) : Hs W (slP e size (some ⟨w.heap.size, 0, none⟩) 0 0 [] :: L) (w.alloc (.cells #[] e)) :=
  h.own_new ((Fr.refl w).alloc _) ⟨by simp, .inr ⟨_, 0, #[], rfl, Nat.le_refl _, alloc_new _ _, Nat.le_refl _, Nat.zero_le _, by simp, by simp⟩⟩
theorem Hs.r5 {A B C D E : HP} (h : Hs W (E :: A :: B :: C :: D :: L) w) : Hs W (A :: B :: C :: D :: E :: L) w := h.perm (List.perm_middle (l₁ := [A, B, C, D])).symm
theorem Hs.r6 {A B C D E F : HP} (h : Hs W (F :: A :: B :: C :: D :: E :: L) w) : Hs W (A :: B :: C :: D :: E :: F :: L) w := h.perm (List.perm_middle (l₁ := [A, B, C, D, E])).symm
variable {P : Program} {t ty e : TypeId} {size bytes : Nat} {z : Value} {inf : TypeInfo} {a : Option Addr} {l c : Nat} {xs : List Value}
/-- an append of what a slice, nil or not, holds -/
theorem Hs.appendA (E : ElemT P t e size bytes z inf) (h : Hs W L w) (i : Nat) (hi : L[i]? = some (slP e size a l c xs)) {b : Option Addr} {m d : Nat} {news : List Value} (hl : news.length = m * size) (hnews : Rd w b news) (hd : b = none → d = 0) (h1 : ∀ u ∈ news, u.oneCell' = true) (hn : l + m ≤ 281474976710656) (hb : (l + m) * bytes ≤ 140737488355328)
    {K : Option Addr → Nat → Nat → World → Prop} (hk : ∀ a' c' w', Hs W (L.set i (slP e size a' (l + m) c' (xs ++ news))) w' → Fr (inB a) w w' → K a' (l + m) c' w') :
    ∃ a' l' c' w', Sem.run P (Builtin.append_ #[t, t] ty #[.slice a l c, .slice b m d]) w = .ok (.slice a' l' c') w' ∧ K a' l' c' w' := by
  cases b with
  | some b => exact h.append E i hi hl hnews h1 hn hb hk
  | none =>
    have hnil : news = [] := by
      cases news with
      | nil => rfl
      | cons x r => obtain ⟨ad, e⟩ := hnews.some (by simp); cases e
    subst hnil
    have hm : m = 0 := by
      rcases Nat.eq_zero_or_pos m with h | h
      · exact h
      · have := Nat.mul_pos h E.pos
        rw [← hl] at this
        exact absurd this (by simp)
    subst hm
    rw [hd rfl]
    refine ⟨a, l, c, w, run_append_owned_none (P := P) w 0 t ty e inf size E.ht E.hi (.slice a l c) l xs ((h.own i hi).mono (Nat.zero_le _)), ?_⟩
    have := hk a c w (by
      rw [List.append_nil, Nat.add_zero, set_id hi]; exact h) (Fr.refl w)
    simpa using this
end
end Go.Sh
namespace Go.Sh
open Go
/-- a world of one block -/
def lone (w : World) (b : Nat) (o : Obj) : World := { w with heap := (Array.replicate b (.cells #[] 0 (0, 0))).push o }
theorem lone_at (w : World) (b : Nat) (o : Obj) : (lone w b o).heap[b]? = some o := by
  show ((Array.replicate b (Obj.cells #[] 0 (0, 0))).push o)[b]? = some o
  rw [Array.getElem?_push]
  simp
theorem lone_other {w : World} {b k : Nat} {o o' : Obj} (h : (lone w b o).heap[k]? = some o') (hk : k ≠ b) : o' = .cells #[] 0 (0, 0) := by
  have : ((Array.replicate b (Obj.cells #[] 0 (0, 0))).push o)[k]? = some o' := h
  rw [Array.getElem?_push] at this
  have hs : (Array.replicate b (Obj.cells #[] 0 (0, 0))).size = b := by simp
  rw [hs, if_neg hk] at this
  rw [Array.getElem?_replicate] at this
  split at this
  · cases this; rfl
  · cases this
theorem Pres.lone {w w' : World} {b : Nat} {o : Obj} (h : w'.heap[b]? = some o) : Pres (Sh.lone w b o) w' := by
  have hlt := lt_of_blk h
  refine ⟨?_, fun a v e => ?_, fun r es c e => ?_⟩
  · show ((Array.replicate b (Obj.cells #[] 0 (0, 0))).push o).size ≤ _
    simp; omega
  · by_cases ha : a.block = b
    · rw [← e]
      refine World.cell?_of_block ?_
      rw [ha, lone_at, h]
    · exfalso
      unfold World.cell? at e
      cases ho : (Sh.lone w b o).heap[a.block]? with
      | none => rw [ho] at e; cases e
      | some o' =>
        have := lone_other ho ha
        subst this
        rw [ho] at e
        simp at e
  · by_cases hr : r = b
    · subst hr; rw [lone_at] at e; rw [h]; exact e
    · have := lone_other e hr
      cases this
end Go.Sh
