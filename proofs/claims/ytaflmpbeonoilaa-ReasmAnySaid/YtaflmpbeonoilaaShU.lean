/-
  Owned memory: the blocks of an assertion; making one out of its parts; worlds beside a store.
-/
import Derived.Test.YtaflmpbeonoilaaShS
import Derived.Laws.OwnMore
namespace Go.Sh
open Go
def bk : Option Addr → List Nat
  | none => []
  | some ad => [ad.block]
theorem mem_bk {a : Option Addr} {k : Nat} : k ∈ bk a ↔ inB a k := by
  cases a with
  | none => simp [bk, inB]
  | some ad => simp [bk, inB]; exact eq_comm
/-- the blocks of an assertion -/
def Dm (A : HP) (f : List Nat) : Prop := ∀ x, A x → f.Nodup ∧ ∀ k, x k ≠ none ↔ k ∈ f
/-- there is such a part in a world -/
def Bu (w : World) (A : HP) : Prop := ∃ x, A x ∧ ag x w
section
variable {W w : World} {A B : HP} {L : List HP} {f g : List Nat}
theorem Dm.pt (b : Nat) (o : Obj) : Dm (pt b o) [b] := by
  rintro _ rfl
  refine ⟨by simp, fun k => ?_⟩
  by_cases h : k = b <;> simp [h]
theorem Dm.sl {e : TypeId} {s l c : Nat} {a : Option Addr} {xs : List Value} : Dm (slP e s a l c xs) (bk a) := fun x hx => ⟨by cases a <;> simp [bk], fun k => by rw [mem_bk]; exact inB_of hx k⟩
theorem Dm.emp : Dm emp [] := by
  rintro _ rfl
  exact ⟨by simp, fun k => by simp⟩
theorem Dm.star (hA : Dm A f) (hB : Dm B g) : Dm (star A B) (f ++ g) := by
  rintro _ ⟨x, y, hx, hy, d, rfl⟩
  obtain ⟨n1, m1⟩ := hA x hx
  obtain ⟨n2, m2⟩ := hB y hy
  refine ⟨List.nodup_append.2 ⟨n1, n2, fun a ha b hb e => ?_⟩, fun k => ?_⟩
  · subst e
    rcases d a with d | d
    · exact (m1 a).2 ha d
    · exact (m2 a).2 hb d
  · rw [List.mem_append, ← m1, ← m2, Ne, hun_none, Classical.not_and_iff_not_or_not]
theorem Dm.cons (hA : Dm A f) (hB : Dm (bigS L) g) : Dm (bigS (A :: L)) (f ++ g) := Dm.star hA hB
theorem Dm.pr {p : Prop} (h : p → Dm A f) : Dm (pr p A) f := fun x hx => h hx.1 x hx.2
theorem Dm.big {α : Type} (F : α → HP) (f : α → List Nat) : ∀ (l : List α), (∀ a ∈ l, Dm (F a) (f a)) → Dm (bigS (l.map F)) (l.flatMap f)
  | [], _ => Dm.emp
  | a :: l, h => by
    rw [List.map_cons, List.flatMap_cons]
    exact Dm.cons (h a (by simp)) (Dm.big F f l fun b hb => h b (List.mem_cons_of_mem _ hb))
theorem Bu.pt {b : Nat} {o : Obj} (h : w.heap[b]? = some o) : Bu w (pt b o) := ⟨_, rfl, fun k o' e => by
  by_cases hk : k = b
  · subst hk; simp at e; subst e; exact h
  · simp [hk] at e⟩
theorem Bu.sl {e : TypeId} {s l c B : Nat} {a : Option Addr} {xs : List Value} (h : Own w B e s a l c xs) : Bu w (slP e s a l c xs) := own_to h
theorem Bu.emp : Bu w emp := ⟨_, rfl, fun _ _ e => by simp at e⟩
theorem Bu.star (h1 : Bu w A) (h2 : Bu w B) (d1 : Dm A f) (d2 : Dm B g) (hn : (f ++ g).Nodup) : Bu w (star A B) := by
  obtain ⟨x, hx, ax⟩ := h1
  obtain ⟨y, hy, ay⟩ := h2
  refine ⟨hun x y, ⟨x, y, hx, hy, fun k => ?_, rfl⟩, fun k o e => ?_⟩
  · rcases Classical.em (x k = none) with h | h
    · exact .inl h
    · rcases Classical.em (y k = none) with h' | h'
      · exact .inr h'
      · exact absurd rfl ((List.nodup_append.1 hn).2.2 k (((d1 x hx).2 k).1 h) k (((d2 y hy).2 k).1 h'))
  · unfold hun at e
    cases e' : x k with
    | some o' => rw [e'] at e; cases e; exact ax k _ e'
    | none => rw [e'] at e; exact ay k o (by simpa using e)
theorem Bu.cons (h1 : Bu w A) (h2 : Bu w (bigS L)) (d1 : Dm A f) (d2 : Dm (bigS L) g) (hn : (f ++ g).Nodup) : Bu w (bigS (A :: L)) := Bu.star h1 h2 d1 d2 hn
theorem Bu.pr {p : Prop} (hp : p) (h : Bu w A) : Bu w (pr p A) := by
  obtain ⟨x, hx, ax⟩ := h
  exact ⟨x, ⟨hp, hx⟩, ax⟩
theorem Bu.big {α : Type} (F : α → HP) (f : α → List Nat) : ∀ (l : List α), (∀ a ∈ l, Bu w (F a)) → (∀ a ∈ l, Dm (F a) (f a)) → (l.flatMap f).Nodup → Bu w (bigS (l.map F))
  | [], _, _, _ => Bu.emp
  | a :: l, h, d, hn => by
    rw [List.map_cons]
    rw [List.flatMap_cons] at hn
    exact Bu.cons (h a (by simp)) (Bu.big F f l (fun b hb => h b (List.mem_cons_of_mem _ hb)) (fun b hb => d b (List.mem_cons_of_mem _ hb)) (List.nodup_append.1 hn).2.1) (d a (by simp)) (Dm.big F f l fun b hb => d b (List.mem_cons_of_mem _ hb)) hn
theorem piece {x : Hl} (h : bigS L x) (a : ag x w) {i : Nat} (hi : L[i]? = some A) : ∃ y, A y ∧ ag y w ∧ ∀ k, y k ≠ none → x k ≠ none := by
  rw [bigS_focus hi] at h
  obtain ⟨y, z, hy, hz, d, rfl⟩ := h
  exact ⟨y, hy, fun k o e => a k o (by unfold hun; rw [e]; rfl), fun k e u => e (hun_none.1 u).1⟩
theorem Hs.apart (h : Hs W L w) {i j : Nat} (hij : i ≠ j) (hi : L[i]? = some A) (hj : L[j]? = some B) (d1 : Dm A f) (d2 : Dm B g) : ∀ k ∈ f, k ∉ g := by
  have h1 := h.focus hi
  have hj' : ∃ j' : Nat, (L.eraseIdx i)[j']? = some B := by
    rcases Nat.lt_or_ge j i with hl | hl
    · exact ⟨j, by rw [List.getElem?_eraseIdx, if_pos hl]; exact hj⟩
    · exact ⟨j - 1, by rw [List.getElem?_eraseIdx, if_neg (by omega), show j - 1 + 1 = j by omega]; exact hj⟩
  obtain ⟨j', hj'⟩ := hj'
  obtain ⟨_, x, ⟨y, z, hy, hz, d, rfl⟩, _, _⟩ := h1
  rw [bigS_focus hj'] at hz
  obtain ⟨u, v, hu, hv, d', rfl⟩ := hz
  intro k hk hk'
  have e1 := ((d1 y hy).2 k).2 hk
  have e2 := ((d2 u hu).2 k).2 hk'
  rcases d k with d | d
  · exact e1 d
  · exact e2 (hun_none.1 d).1
theorem Hs.ne (h : Hs W L w) (i j : Nat) {b b' : Nat} {o o' : Obj} (hi : L[i]? = some (Sh.pt b o)) (hj : L[j]? = some (Sh.pt b' o')) (hij : i ≠ j := by decide) : b ≠ b' := fun e => h.apart hij hi hj (Dm.pt b o) (Dm.pt b' o') b (by simp) (by simp [e])
theorem Hs.mem {_ : Hl} (h : Hs W L w) (hm : A ∈ L) : ∃ x, A x ∧ ag x w ∧ ∀ k, x k ≠ none → W.heap.size ≤ k := by
  obtain ⟨i, hi⟩ := List.getElem?_of_mem hm
  exact h.look hi
theorem Hs.rdm {e : TypeId} {s l c : Nat} {a : Option Addr} {xs : List Value} (h : Hs W L w) (hm : slP e s a l c xs ∈ L) : Rd w a xs := by
  obtain ⟨i, hi⟩ := List.getElem?_of_mem hm
  exact h.rd i hi
/-- a world without one block's cells -/
theorem Pres.empt {b : Nat} {cs : Array Value} {T T' : TypeId} {z z' : Nat × Nat} (h : w.heap[b]? = some (.cells cs T z)) {w' : World} (hs : w'.heap.size = w.heap.size) (hw : ∀ k, k ≠ b → w'.heap[k]? = w.heap[k]?) : Pres (Sh.sb w b (.cells #[] T' z')) w' := by
  refine ⟨by simp [hs], fun a v e => ?_, fun r es c e => ?_⟩
  · by_cases ha : a.block = b
    · exfalso
      unfold World.cell? at e
      rw [ha, sb_same h] at e
      simp at e
    · rw [← e]
      refine World.cell?_of_block ?_
      rw [sb_other ha]; exact hw _ ha
  · by_cases hr : r = b
    · subst hr; rw [sb_same h] at e; cases e
    · rw [sb_other hr] at e; rw [hw r hr]; exact e
theorem Own.loc {w' : World} {base base' : Nat} {e : TypeId} {s l c : Nat} {a : Option Addr} {xs : List Value} (h : Own w base e s a l c xs) (hl : ∀ k, inB a k → w'.heap[k]? = w.heap[k]? ∧ base' ≤ k) : Own w' base' e s a l c xs := by
  rcases h.cases with ⟨rfl, rfl, rfl⟩ | ⟨g, cur, rfl, h2, h3, h4, h5, h6, h7⟩
  · exact ⟨h.1, .inl ⟨rfl, rfl⟩⟩
  · obtain ⟨e1, e2⟩ := hl g ⟨_, rfl, rfl⟩
    exact ⟨h.1, .inr ⟨g, c, cur, rfl, e2, by rw [e1]; exact h3, h4, h5, h6, h7⟩⟩
theorem Hs.build {w' : World} (h : Hs W L w) (hs : Same w w') (hb : Bu w' A) (hd : Dm A f) (hn : ∀ k ∈ f, w.heap.size ≤ k) : Hs W (A :: L) w' := by
  obtain ⟨x, hx, ax⟩ := hb
  exact h.new hs hx ax fun k hk => hn k (((hd x hx).2 k).1 hk)
/-- an assertion turns, by its blocks -/
theorem Hs.turn {w' : World} (h : Hs W (A :: L) w) (d1 : Dm A f) (hf : Fr (· ∈ f) w w') (hb : Bu w' B) (d2 : Dm B g) (hg : ∀ k ∈ g, k ∈ f ∨ w.heap.size ≤ k) : Hs W (B :: L) w' := by
  refine h.upd 0 rfl fun x hx ax lo => ?_
  obtain ⟨y, hy, ay⟩ := hb
  have m1 := (d1 x hx).2
  have m2 := (d2 y hy).2
  refine ⟨y, hy, ay, fun k hk => ?_, hf.mono fun k _ hk => (m1 k).2 hk⟩
  rcases hg k ((m2 k).1 hk) with h | h
  · exact .inl ((m1 k).2 h)
  · exact .inr h
end
end Go.Sh
namespace Go.Sh
open Go
section
variable {α β : Type} {f : α → List β} {m : Nat}
theorem flat_length (hf : ∀ a, (f a).length = m) (l : List α) : (l.flatMap f).length = l.length * m := by
  induction l with
  | nil => simp
  | cons a l ih => rw [List.flatMap_cons, List.length_append, hf, ih, List.length_cons, Nat.add_mul, Nat.one_mul, Nat.add_comm]
theorem flat_get (hf : ∀ a, (f a).length = m) {l : List α} {i j : Nat} {a : α} (h : l[i]? = some a) (hj : j < m) : (l.flatMap f)[i * m + j]? = (f a)[j]? := by
  induction l generalizing i with
  | nil => simp at h
  | cons b l ih =>
    rw [List.flatMap_cons]
    cases i with
    | zero =>
      simp at h; subst h
      rw [Nat.zero_mul, Nat.zero_add, List.getElem?_append_left (by rw [hf]; exact hj)]
    | succ i =>
      rw [List.getElem?_append_right (by rw [hf, Nat.add_mul]; omega), ← ih (by simpa using h)]
      congr 1
      rw [hf, Nat.add_mul]; omega
theorem flat_set (hf : ∀ a, (f a).length = m) {l : List α} {i j : Nat} {a a' : α} {v : β} (h : l[i]? = some a) (hj : j < m) (hv : f a' = (f a).set j v) : (l.set i a').flatMap f = (l.flatMap f).set (i * m + j) v := by
  induction l generalizing i with
  | nil => simp at h
  | cons b l ih =>
    cases i with
    | zero =>
      simp at h; subst h
      rw [List.set_cons_zero, List.flatMap_cons, List.flatMap_cons, Nat.zero_mul, Nat.zero_add, List.set_append_left _ _ (by rw [hf]; exact hj), hv]
    | succ i =>
      rw [List.set_cons_succ, List.flatMap_cons, List.flatMap_cons, List.set_append_right _ _ (by rw [hf, Nat.add_mul]; omega), ih (by simpa using h)]
      congr 2
      rw [hf, Nat.add_mul]; omega
theorem flat_take (hf : ∀ a, (f a).length = m) (l : List α) (n : Nat) : (l.flatMap f).take (n * m) = (l.take n).flatMap f := by
  induction l generalizing n with
  | nil => simp
  | cons a l ih =>
    cases n with
    | zero => simp
    | succ n =>
      rw [List.flatMap_cons, List.take_succ_cons, List.flatMap_cons, ← ih n, List.take_append]
      congr 1
      · rw [List.take_of_length_le]; rw [hf, Nat.add_mul]; omega
      · congr 1; rw [hf, Nat.add_mul]; omega
theorem flat_drop (hf : ∀ a, (f a).length = m) (l : List α) (n : Nat) : (l.flatMap f).drop (n * m) = (l.drop n).flatMap f := by
  induction l generalizing n with
  | nil => simp
  | cons a l ih =>
    cases n with
    | zero => simp
    | succ n =>
      rw [List.flatMap_cons, List.drop_succ_cons, ← ih n, List.drop_append]
      rw [List.drop_of_length_le (by rw [hf, Nat.add_mul]; omega), List.nil_append]
      congr 1; rw [hf, Nat.add_mul]; omega
theorem flat_at (hf : ∀ a, (f a).length = m) {l : List α} {i j : Nat} {a : α} {v : β} (h : l[i]? = some a) (hv : (f a)[j]? = some v) : (l.flatMap f)[i * m + j]? = some v := by
  rw [flat_get hf h, hv]
  have := (List.getElem?_eq_some_iff.1 hv).1
  rwa [hf] at this
end
theorem split_of {α : Type} {l : List α} {k : Nat} {d : α} (h : l[k]? = some d) : l = l.take k ++ d :: l.drop (k + 1) := by
  have hk := (List.getElem?_eq_some_iff.1 h).1
  have e := (List.getElem?_eq_some_iff.1 h).2
  have h1 := List.take_append_drop k l
  rw [List.drop_eq_getElem_cons hk, e] at h1
  exact h1.symm
theorem perm_out {α : Type} {l : List α} {i : Nat} {x : α} (h : l[i]? = some x) : l.Perm (x :: l.eraseIdx i) := by
  rw [List.eraseIdx_eq_take_drop_succ]
  exact (List.Perm.of_eq (split_of h)).trans List.perm_middle
theorem set_id {α : Type} {l : List α} {k : Nat} {d : α} (h : l[k]? = some d) : l.set k d = l := by
  have hk := (List.getElem?_eq_some_iff.1 h).1
  rw [List.set_eq_take_append_cons_drop, if_pos hk]
  exact (split_of h).symm
theorem Pres.of_Same {w w' : World} (h : Same w w') : Pres w w' :=
  ⟨h.size, fun a v hv => by rw [← hv]; exact World.cell?_of_block (h.block _ (World.block_lt_of_cell? w a hv) fun x => x), fun r es c hr => h.blk hr fun x => x⟩
section
variable {W w : World} {A B C D : HP} {L M : List HP}
/-- one of a row of like parts, ahead -/
theorem Hs.part {α : Type} {F : α → HP} {l : List α} {i : Nat} {x : α} (hi : l[i]? = some x) (h : Hs W (M ++ l.map F) w) : Hs W (F x :: (M ++ (l.map F).eraseIdx i)) w := by
  have hpm := perm_out (l := l.map F) (i := i) (x := F x) (by simp [hi])
  exact h.perm ((List.Perm.append_left M hpm).trans List.perm_middle)
theorem Hs.unpart {α : Type} {F : α → HP} {l : List α} {i : Nat} {x : α} (hi : i < l.length) (h : Hs W (F x :: (M ++ (l.map F).eraseIdx i)) w) : Hs W (M ++ (l.set i x).map F) w := by
  have hpm := perm_out (l := (l.set i x).map F) (i := i) (x := F x) (by simp [hi])
  have e : ((l.set i x).map F).eraseIdx i = (l.map F).eraseIdx i := by rw [List.map_set, List.eraseIdx_set_eq]
  rw [e] at hpm
  exact h.perm ((List.Perm.append_left M hpm).trans List.perm_middle).symm
theorem Hs.behind (h : Hs W (A :: (L ++ M)) w) : Hs W (L ++ A :: M) w := h.perm List.perm_middle.symm
theorem Hs.ahead (h : Hs W (L ++ A :: M) w) : Hs W (A :: (L ++ M)) w := h.perm List.perm_middle
/-- a new slice with nothing in it -/
theorem Hs.void (h : Hs W L w) (e : TypeId) (size : Nat) : Hs W (slP e size (some ⟨w.heap.size, 0, none⟩) 0 0 [] :: L) (w.alloc (.cells #[] e)) :=
  h.own_new ((Fr.refl w).alloc _) ⟨by simp, .inr ⟨_, 0, #[], rfl, Nat.le_refl _, alloc_new _ _, Nat.le_refl _, Nat.zero_le _, by simp, by simp⟩⟩
theorem Hs.r5 {A B C D E : HP} (h : Hs W (E :: A :: B :: C :: D :: L) w) : Hs W (A :: B :: C :: D :: E :: L) w := h.perm (List.perm_middle (l₁ := [A, B, C, D])).symm
theorem Hs.r6 {A B C D E F : HP} (h : Hs W (F :: A :: B :: C :: D :: E :: L) w) : Hs W (A :: B :: C :: D :: E :: F :: L) w := h.perm (List.perm_middle (l₁ := [A, B, C, D, E])).symm
variable {P : Program} {t ty e : TypeId} {size bytes : Nat} {z : Value} {inf : TypeInfo} {a : Option Addr} {l c : Nat} {xs : List Value}
/-- an append of what a slice, nil or not, holds -/
theorem Hs.appendA (E : ElemT P t e size bytes z inf) (h : Hs W L w) (i : Nat) (hi : L[i]? = some (slP e size a l c xs)) {b : Option Addr} {m d : Nat} {news : List Value} (hl : news.length = m * size) (hnews : Rd w b news) (hd : b = none → d = 0) (h1 : ∀ u ∈ news, u.oneCell' = true) (hn : l + m ≤ 281474976710656) (hb : (l + m) * bytes ≤ 140737488355328)
    {K : Option Addr → Nat → Nat → World → Prop} (hk : ∀ a' c' w', Hs W (L.set i (slP e size a' (l + m) c' (xs ++ news))) w' → Fr (inB a) w w' → K a' (l + m) c' w') :
    ∃ a' l' c' w', Sem.run P (Builtin.append_ #[t, t] ty #[.slice a l c, .slice b m d]) w = .ok (.slice a' l' c') w' ∧ K a' l' c' w' := by
  cases b with
  | some b => exact h.append E i hi hl hnews h1 hn hb hk
  | none =>
    have hnil : news = [] := by
      cases news with
      | nil => rfl
      | cons x r => obtain ⟨ad, e⟩ := hnews.some (by simp); cases e
    subst hnil
    have hm : m = 0 := by
      rcases Nat.eq_zero_or_pos m with h | h
      · exact h
      · have := Nat.mul_pos h E.pos
        rw [← hl] at this
        exact absurd this (by simp)
    subst hm
    rw [hd rfl]
    refine ⟨a, l, c, w, run_append_owned_none (P := P) w 0 t ty e inf size E.ht E.hi (.slice a l c) l xs ((h.own i hi).mono (Nat.zero_le _)), ?_⟩
    have := hk a c w (by
      rw [List.append_nil, Nat.add_zero, set_id hi]; exact h) (Fr.refl w)
    simpa using this
end
end Go.Sh
namespace Go.Sh
open Go
/-- a world of one block -/
def lone (w : World) (b : Nat) (o : Obj) : World := { w with heap := (Array.replicate b (.cells #[] 0 (0, 0))).push o }
theorem lone_at (w : World) (b : Nat) (o : Obj) : (lone w b o).heap[b]? = some o := by
  show ((Array.replicate b (Obj.cells #[] 0 (0, 0))).push o)[b]? = some o
  rw [Array.getElem?_push]
  simp
theorem lone_other {w : World} {b k : Nat} {o o' : Obj} (h : (lone w b o).heap[k]? = some o') (hk : k ≠ b) : o' = .cells #[] 0 (0, 0) := by
  have : ((Array.replicate b (Obj.cells #[] 0 (0, 0))).push o)[k]? = some o' := h
  rw [Array.getElem?_push] at this
  have hs : (Array.replicate b (Obj.cells #[] 0 (0, 0))).size = b := by simp
  rw [hs, if_neg hk] at this
  rw [Array.getElem?_replicate] at this
  split at this
  · cases this; rfl
  · cases this
theorem Pres.lone {w w' : World} {b : Nat} {o : Obj} (h : w'.heap[b]? = some o) : Pres (Sh.lone w b o) w' := by
  have hlt := lt_of_blk h
  refine ⟨?_, fun a v e => ?_, fun r es c e => ?_⟩
  · show ((Array.replicate b (Obj.cells #[] 0 (0, 0))).push o).size ≤ _
    simp; omega
  · by_cases ha : a.block = b
    · rw [← e]
      refine World.cell?_of_block ?_
      rw [ha, lone_at, h]
    · exfalso
      unfold World.cell? at e
      cases ho : (Sh.lone w b o).heap[a.block]? with
      | none => rw [ho] at e; cases e
      | some o' =>
        have := lone_other ho ha
        subst this
        rw [ho] at e
        simp at e
  · by_cases hr : r = b
    · subst hr; rw [lone_at] at e; rw [h]; exact e
    · have := lone_other e hr
      cases this
end Go.Sh
