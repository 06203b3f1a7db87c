/-
  Owned memory: the blocks of an assertion; making one out of its parts; worlds beside a store.
-/
import Derived.Test.YtaflmpbeonoilaaShS
namespace Go.Sh
open Go
def bk : Option Addr → List Nat
  | none => []
  | some ad => [ad.block]
theorem mem_bk {a : Option Addr} {k : Nat} : k ∈ bk a ↔ inB a k := by
  cases a with
  | none => simp [bk, inB]
  | some ad => simp [bk, inB]; exact eq_comm
/-- the blocks of an assertion -/
def Dm (A : HP) (f : List Nat) : Prop := ∀ x, A x → f.Nodup ∧ ∀ k, x k ≠ none ↔ k ∈ f
/-- there is such a part in a world -/
def Bu (w : World) (A : HP) : Prop := ∃ x, A x ∧ ag x w
section
variable {W w : World} {A B : HP} {L : List HP} {f g : List Nat}
theorem Dm.pt (b : Nat) (o : Obj) : Dm (pt b o) [b] := by
  rintro _ rfl
  refine ⟨by simp, fun k => ?_⟩
  by_cases h : k = b <;> simp [h]
theorem Dm.sl {e : TypeId} {s l c : Nat} {a : Option Addr} {xs : List Value} : Dm (slP e s a l c xs) (bk a) := fun x hx => ⟨by cases a <;> simp [bk], fun k => by rw [mem_bk]; exact inB_of hx k⟩
theorem Dm.emp : Dm emp [] := by
  rintro _ rfl
  exact ⟨by simp, fun k => by simp⟩
theorem Dm.star (hA : Dm A f) (hB : Dm B g) : Dm (star A B) (f ++ g) := by
  rintro _ ⟨x, y, hx, hy, d, rfl⟩
  obtain ⟨n1, m1⟩ := hA x hx
  obtain ⟨n2, m2⟩ := hB y hy
  refine ⟨List.nodup_append.2 ⟨n1, n2, fun a ha b hb e => ?_⟩, fun k => ?_⟩
  · subst e
    rcases d a with d | d
    · exact (m1 a).2 ha d
    · exact (m2 a).2 hb d
  · rw [List.mem_append, ← m1, ← m2, Ne, hun_none, Classical.not_and_iff_not_or_not]
theorem Dm.cons (hA : Dm A f) (hB : Dm (bigS L) g) : Dm (bigS (A :: L)) (f ++ g) := Dm.star hA hB
theorem Dm.pr {p : Prop} (h : p → Dm A f) : Dm (pr p A) f := fun x hx => h hx.1 x hx.2
theorem Dm.big {α : Type} (F : α → HP) (f : α → List Nat) : ∀ (l : List α), (∀ a ∈ l, Dm (F a) (f a)) → Dm (bigS (l.map F)) (l.flatMap f)
  | [], _ => Dm.emp
  | a :: l, h => by
    rw [List.map_cons, List.flatMap_cons]
    exact Dm.cons (h a (by simp)) (Dm.big F f l fun b hb => h b (List.mem_cons_of_mem _ hb))
theorem Bu.pt {b : Nat} {o : Obj} (h : w.heap[b]? = some o) : Bu w (pt b o) := ⟨_, rfl, fun k o' e => by
  by_cases hk : k = b
  · subst hk; simp at e; subst e; exact h
  · simp [hk] at e⟩
theorem Bu.sl {e : TypeId} {s l c B : Nat} {a : Option Addr} {xs : List Value} (h : Own w B e s a l c xs) : Bu w (slP e s a l c xs) := own_to h
theorem Bu.emp : Bu w emp := ⟨_, rfl, fun _ _ e => by simp at e⟩
theorem Bu.star (h1 : Bu w A) (h2 : Bu w B) (d1 : Dm A f) (d2 : Dm B g) (hn : (f ++ g).Nodup) : Bu w (star A B) := by
  obtain ⟨x, hx, ax⟩ := h1
  obtain ⟨y, hy, ay⟩ := h2
  refine ⟨hun x y, ⟨x, y, hx, hy, fun k => ?_, rfl⟩, fun k o e => ?_⟩
  · rcases Classical.em (x k = none) with h | h
    · exact .inl h
    · rcases Classical.em (y k = none) with h' | h'
      · exact .inr h'
      · exact absurd rfl ((List.nodup_append.1 hn).2.2 k (((d1 x hx).2 k).1 h) k (((d2 y hy).2 k).1 h'))
  · unfold hun at e
    cases e' : x k with
    | some o' => rw [e'] at e; cases e; exact ax k _ e'
    | none => rw [e'] at e; exact ay k o (by simpa using e)
theorem Bu.cons (h1 : Bu w A) (h2 : Bu w (bigS L)) (d1 : Dm A f) (d2 : Dm (bigS L) g) (hn : (f ++ g).Nodup) : Bu w (bigS (A :: L)) := Bu.star h1 h2 d1 d2 hn
theorem Bu.pr {p : Prop} (hp : p) (h : Bu w A) : Bu w (pr p A) := by
  obtain ⟨x, hx, ax⟩ := h
  exact ⟨x, ⟨hp, hx⟩, ax⟩
theorem Bu.big {α : Type} (F : α → HP) (f : α → List Nat) : ∀ (l : List α), (∀ a ∈ l, Bu w (F a)) → (∀ a ∈ l, Dm (F a) (f a)) → (l.flatMap f).Nodup → Bu w (bigS (l.map F))
  | [], _, _, _ => Bu.emp
  | a :: l, h, d, hn => by
    rw [List.map_cons]
    rw [List.flatMap_cons] at hn
    exact Bu.cons (h a (by simp)) (Bu.big F f l (fun b hb => h b (List.mem_cons_of_mem _ hb)) (fun b hb => d b (List.mem_cons_of_mem _ hb)) (List.nodup_append.1 hn).2.1) (d a (by simp)) (Dm.big F f l fun b hb => d b (List.mem_cons_of_mem _ hb)) hn
theorem piece {x : Hl} (h : bigS L x) (a : ag x w) {i : Nat} (hi : L[i]? = some A) : ∃ y, A y ∧ ag y w ∧ ∀ k, y k ≠ none → x k ≠ none := by
  rw [bigS_focus hi] at h
  obtain ⟨y, z, hy, hz, d, rfl⟩ := h
  exact ⟨y, hy, fun k o e => a k o (by unfold hun; rw [e]; rfl), fun k e u => e (hun_none.1 u).1⟩
theorem Hs.apart (h : Hs W L w) {i j : Nat} (hij : i ≠ j) (hi : L[i]? = some A) (hj : L[j]? = some B) (d1 : Dm A f) (d2 : Dm B g) : ∀ k ∈ f, k ∉ g := by
  have h1 := h.focus hi
  have hj' : ∃ j' : Nat, (L.eraseIdx i)[j']? = some B := by
    rcases Nat.lt_or_ge j i with hl | hl
    · exact ⟨j, by rw [List.getElem?_eraseIdx, if_pos hl]; exact hj⟩
    · exact ⟨j - 1, by rw [List.getElem?_eraseIdx, if_neg (by omega), show j - 1 + 1 = j by omega]; exact hj⟩
  obtain ⟨j', hj'⟩ := hj'
  obtain ⟨_, x, ⟨y, z, hy, hz, d, rfl⟩, _, _⟩ := h1
  rw [bigS_focus hj'] at hz
  obtain ⟨u, v, hu, hv, d', rfl⟩ := hz
  intro k hk hk'
  have e1 := ((d1 y hy).2 k).2 hk
  have e2 := ((d2 u hu).2 k).2 hk'
  rcases d k with d | d
  · exact e1 d
  · exact e2 (hun_none.1 d).1
theorem Hs.ne (h : Hs W L w) (i j : Nat) {b b' : Nat} {o o' : Obj} (hi : L[i]? = some (Sh.pt b o)) (hj : L[j]? = some (Sh.pt b' o')) (hij : i ≠ j := by decide) : b ≠ b' := fun e => h.apart hij hi hj (Dm.pt b o) (Dm.pt b' o') b (by simp) (by simp [e])
theorem Hs.mem {_ : Hl} (h : Hs W L w) (hm : A ∈ L) : ∃ x, A x ∧ ag x w ∧ ∀ k, x k ≠ none → W.heap.size ≤ k := by
  obtain ⟨i, hi⟩ := List.getElem?_of_mem hm
  exact h.look hi
theorem Hs.rdm {e : TypeId} {s l c : Nat} {a : Option Addr} {xs : List Value} (h : Hs W L w) (hm : slP e s a l c xs ∈ L) : Rd w a xs := by
  obtain ⟨i, hi⟩ := List.getElem?_of_mem hm
  exact h.rd i hi
/-- a world without one block's cells -/
theorem Pres.empt {b : Nat} {cs : Array Value} {T T' : TypeId} {z z' : Nat × Nat} (h : w.heap[b]? = some (.cells cs T z)) {w' : World} (hs : w'.heap.size = w.heap.size) (hw : ∀ k, k ≠ b → w'.heap[k]? = w.heap[k]?) : Pres (Sh.sb w b (.cells #[] T' z')) w' := by
  refine ⟨by simp [hs], fun a v e => ?_, fun r es c e => ?_⟩
  · by_cases ha : a.block = b
    · exfalso
      unfold World.cell? at e
      rw [ha, sb_same h] at e
      simp at e
    · rw [← e]
      refine World.cell?_of_block ?_
      rw [sb_other ha]; exact hw _ ha
  · by_cases hr : r = b
    · subst hr; rw [sb_same h] at e; cases e
    · rw [sb_other hr] at e; rw [hw r hr]; exact e
theorem Own.loc {w' : World} {base base' : Nat} {e : TypeId} {s l c : Nat} {a : Option Addr} {xs : List Value} (h : Own w base e s a l c xs) (hl : ∀ k, inB a k → w'.heap[k]? = w.heap[k]? ∧ base' ≤ k) : Own w' base' e s a l c xs := by
  rcases h.cases with ⟨rfl, rfl, rfl⟩ | ⟨g, cur, rfl, h2, h3, h4, h5, h6, h7⟩
  · exact ⟨h.1, .inl ⟨rfl, rfl⟩⟩
  · obtain ⟨e1, e2⟩ := hl g ⟨_, rfl, rfl⟩
    exact ⟨h.1, .inr ⟨g, c, cur, rfl, e2, by rw [e1]; exact h3, h4, h5, h6, h7⟩⟩
theorem Hs.build {w' : World} (h : Hs W L w) (hs : Same w w') (hb : Bu w' A) (hd : Dm A f) (hn : ∀ k ∈ f, w.heap.size ≤ k) : Hs W (A :: L) w' := by
  obtain ⟨x, hx, ax⟩ := hb
  exact h.new hs hx ax fun k hk => hn k (((hd x hx).2 k).1 hk)
/-- an assertion turns, by its blocks -/
theorem Hs.turn {w' : World} (h : Hs W (A :: L) w) (d1 : Dm A f) (hf : Fr (· ∈ f) w w') (hb : Bu w' B) (d2 : Dm B g) (hg : ∀ k ∈ g, k ∈ f ∨ w.heap.size ≤ k) : Hs W (B :: L) w' := by
  refine h.upd 0 rfl fun x hx ax lo => ?_
  obtain ⟨y, hy, ay⟩ := hb
  have m1 := (d1 x hx).2
  have m2 := (d2 y hy).2
  refine ⟨y, hy, ay, fun k hk => ?_, hf.mono fun k _ hk => (m1 k).2 hk⟩
  rcases hg k ((m2 k).1 hk) with h | h
  · exact .inl ((m1 k).2 h)
  · exact .inr h
end
end Go.Sh
