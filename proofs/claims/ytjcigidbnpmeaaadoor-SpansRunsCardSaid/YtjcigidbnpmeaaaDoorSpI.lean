/- Own text: part of the shallow reading of the code and of the contracts that are proved over it. -/
import Derived.Test.YtjcigidbnpmeaaaDoorSpH
namespace Go.Proofs.YtjcigidbnpmeaaaDoor
open Go Go.Sh Go.Sp

theorem snocInd {α : Type} {P : List α → Prop} (h0 : P []) (h : ∀ r d, P r → P (r ++ [d])) (l : List α) : P l := by
  have : ∀ l : List α, P l.reverse := fun l => by
    induction l with
    | nil => exact h0
    | cons x l ih => rw [List.reverse_cons]; exact h _ _ ih
  have := this l.reverse
  rwa [List.reverse_reverse] at this

/-! Missing -/
def mstep (acc : List Nat × Nat) (d : Nat) : List Nat × Nat := (acc.1 ++ List.range' acc.2 (d - acc.2), d + 1)
def missA (S : List Nat) : List Nat × Nat := S.foldl mstep ([], 1)
theorem missA_snoc (S : List Nat) (d : Nat) : missA (S ++ [d]) = mstep (missA S) d := by simp [missA]
theorem missA_next (S : List Nat) : (missA S).2 = S.getLastD 0 + 1 := by
  rcases List.eq_nil_or_concat S with rfl | ⟨r, d, rfl⟩
  · rfl
  · rw [List.concat_eq_append, missA_snoc, List.getLastD_eq_getLast?]; simp [mstep]
theorem missA_bound (S : List Nat) (h : S.Pairwise (· < ·)) (h1 : ∀ d ∈ S, 1 ≤ d) : (missA S).1.length + 1 ≤ (missA S).2 ∧ (∀ d ∈ S, d < (missA S).2) ∧ (∀ k ∈ (missA S).1, 1 ≤ k ∧ k < (missA S).2) := by
  revert h h1
  refine snocInd (P := fun S => S.Pairwise (· < ·) → (∀ d ∈ S, 1 ≤ d) → (missA S).1.length + 1 ≤ (missA S).2 ∧ (∀ d ∈ S, d < (missA S).2) ∧ (∀ k ∈ (missA S).1, 1 ≤ k ∧ k < (missA S).2)) (by simp [missA]) ?_ S
  · intro r d ih h h1
    obtain ⟨i1, i2, i3⟩ := ih (List.pairwise_append.1 h).1 fun e he => h1 e (by simp [he])
    have h3 := (List.pairwise_append.1 h).2.2
    have hd : (missA r).2 ≤ d := by
      rw [missA_next]
      rcases List.eq_nil_or_concat r with rfl | ⟨r', e, rfl⟩
      · have := h1 d (by simp); simpa using this
      · have := h3 e (by simp) d (by simp)
        simp [List.getLastD_eq_getLast?]; omega
    rw [missA_snoc]
    simp only [mstep, List.length_append, List.length_range']
    refine ⟨by omega, fun e he => ?_, fun k hk => ?_⟩
    · rcases List.mem_append.1 he with he | he
      · have := i2 e he; omega
      · simp at he; omega
    · rcases List.mem_append.1 hk with hk | hk
      · have := i3 k hk; omega
      · simp at hk
        omega

section
variable {b m : Nat} {cum : Int} {S : List Nat} {N : Int}
structure Mi (w0 : World) (b m bs : Nat) (cum : Int) (S : List Nat) (N : Int) (L : List Nat) (nx : Nat) (w : World) : Prop where
  fr : Same w0 w
  set : SetR w b m cum S
  ptr : w.heap[bs]? = some (.cells #[.pointer (some ⟨b, 0, none⟩)] 25 (0, 0))
  num : w.heap[bs + 1]? = some (.cells #[.int .i64 N] 3 (0, 0))
  out : ∃ a l c, w.heap[bs + 2]? = some (.cells #[.slice a l c] 30 (0, 0)) ∧ Own w (bs + 4) 22 1 a l c (numV cum (L.take N.toNat))
  nxt : w.heap[bs + 3]? = some (.cells #[.int .i64 (nx : Int)] 3 (0, 0))
theorem take_full {α : Type} {L M : List α} {n : Nat} (h : n ≤ L.length) : (L ++ M).take n = L.take n := by rw [List.take_append_of_le_length h]
theorem c42_loop {w0 : World} {bs d : Nat} (hd1 : d ≤ 65535) (hbs : w0.heap.size ≤ bs) (hb : b < bs) (hm : m < bs) {K : Value → Value → World → Prop} : ∀ (i nx : Nat) (L : List Nat) (w : World) (k : Nat),
    d - nx = i → Mi w0 b m bs cum S N L nx w → nx ≤ 65536 → L.length + 1 ≤ nx → i < k →
    (∀ nx' w', Mi w0 b m bs cum S N (L ++ List.range' nx (d - nx)) nx' w' → K (.int .i64 (d : Int)) (.pointer (some ⟨bs + 3, 0, none⟩)) w') →
    F42_2 K k (.int .i64 (d : Int)) (.pointer (some ⟨bs + 3, 0, none⟩)) (.pointer (some ⟨bs + 2, 0, none⟩)) (.pointer (some ⟨bs + 1, 0, none⟩)) (.pointer (some ⟨bs, 0, none⟩)) w := by
  intro i
  induction i with
  | zero =>
    intro nx L w k hi h hn hL hk hK
    obtain ⟨k, rfl⟩ : ∃ j, k = j + 1 := ⟨k - 1, by omega⟩
    show F42_2B _ _ _ _ _ _ _ _
    unfold F42_2B
    simp only [rdA_mk, rdI_mk]
    refine ldI_at h.nxt rfl ?_
    simp only [br_dec]
    refine ⟨fun h1 => by exfalso; omega, fun _ => hK nx w ?_⟩
    rw [hi]; simpa using h
  | succ i ih =>
    intro nx L w k hi h hn hL hk hK
    obtain ⟨k, rfl⟩ : ∃ j, k = j + 1 := ⟨k - 1, by omega⟩
    show F42_2B _ _ _ _ _ _ _ _
    unfold F42_2B
    simp only [rdA_mk, rdI_mk]
    refine ldI_at h.nxt rfl ?_
    obtain ⟨a, l, c, h1, h2⟩ := h.out
    have hl : l = min N.toNat L.length := by have := h2.length; simp [numV] at this; omega
    simp only [br_dec]
    refine ⟨fun hlt => ldC_at h1 rfl (ldI_at h.num rfl ⟨fun h3 => ?_, fun h3 => ?_⟩), fun h1 => by exfalso; omega⟩
    · unfold F42_1 drw alc
      simp only [rdA_mk, rdI_mk]
      refine ldC_at (w := w.drew) h1 rfl (ldP_at (w := w.drew) h.ptr rfl ?_)
      simp only [nn_some, add_mk]
      refine ldI_at (w := w.drew) h.set.fld.blk rfl (ldI_at (w := w.drew) h.nxt rfl ⟨Pres.alloc _ _, ?_⟩)
      have f0 : Same w w.drew := (Fr.refl w).drew
      rw [addN (by omega)]
      refine push E30 (h2.fr f0 fun _ _ x => x) (news := #[_]) rfl (by simp [Value.oneCell']) (by omega) (by omega) (by have := lt_of_blk h.nxt; simp; omega) ?_
      intro a' c' w' k1 k2 k3
      have nb : ∀ k, k < bs + 4 → ¬ inB a k := fun k hk x => by have := (h2.base_le x).1; omega
      have f1 : Fr (fun k => bs + 4 ≤ k) w w' := (f0.mono (S' := fun k => bs + 4 ≤ k) fun _ _ x => x.elim).trans k2 fun i _ x => by have := (h2.base_le x).1; omega
      have o1 := f1.blk h1 (by omega)
      refine stc_at o1 (by simp) ?_
      have f2 := (f1.mono (S' := fun k => bs + 2 ≤ k) fun i _ x => by omega).sb (b := bs + 2) (o := .cells (#[.slice a l c].setIfInBounds 0 (.slice a' (l + 1) c')) 30 (0, 0)) fun _ => Nat.le_refl _
      have o2 := sb_same (o := .cells (#[.slice a l c].setIfInBounds 0 (.slice a' (l + 1) c')) 30 (0, 0)) o1
      have q2 := k1.fr ((Fr.refl w').sb (S := (· = bs + 2)) (b := bs + 2) (o := .cells (#[.slice a l c].setIfInBounds 0 (.slice a' (l + 1) c')) 30 (0, 0)) fun _ => rfl) fun k hk x => by
        subst x
        have := (k1.base_le hk).1
        omega
      have x2 : (sb w' (bs + 2) (.cells (#[.slice a l c].setIfInBounds 0 (.slice a' (l + 1) c')) 30 (0, 0))).heap[bs + 3]? = some (.cells #[.int .i64 (nx : Int)] 3 (0, 0)) := by
        rw [sb_other (by omega)]; exact f1.blk h.nxt (by omega)
      generalize hw2 : sb w' (bs + 2) _ = w2 at f2 o2 q2 x2
      refine ldI_at x2 rfl (stc_at x2 (by simp) fun _g => ?_)
      have f3 := f2.sb (b := bs + 3) (o := .cells (#[.int .i64 (nx : Int)].setIfInBounds 0 (.int .i64 (IntKind.wrap .i64 ((nx : Int) + 1)))) 3 (0, 0)) fun _ => by omega
      have e1 : IntKind.wrap .i64 ((nx : Int) + 1) = ((nx + 1 : Nat) : Int) := by rw [wrap_i64 (by omega) (by omega)]; omega
      rw [e1] at f3 ⊢
      have hT : L.take N.toNat = L := List.take_of_length_le (by omega)
      refine ih (nx + 1) (L ++ [nx]) _ k (by omega) ⟨(h.fr.mono (S' := fun k => w0.heap.size ≤ k) fun _ _ x => x.elim).trans f3 (fun i _ (x : bs + 2 ≤ i) => by omega) |>.mono fun i hi x => by omega, h.set.fr f3 (by omega) (by omega), f3.blk h.ptr (by omega), f3.blk h.num (by omega), ⟨a', l + 1, c', ?_, ?_⟩, sb_same x2⟩ (by omega) (by simp; omega) (by omega) ?_
      · rw [sb_other (by omega)]; exact o2
      · refine Own.fr ?_ ((Fr.refl w2).sb (S := (· = bs + 3)) fun _ => rfl) fun k hk x => ?_
        · rw [List.take_of_length_le (by simp; omega)]
          rw [hT] at q2
          rw [numV_snoc]
          exact q2
        · subst x
          have := (k1.base_le hk).1
          omega
      · intro nx' w'' hM
        refine hK nx' w'' ?_
        have : List.range' nx (d - nx) = nx :: List.range' (nx + 1) (d - (nx + 1)) := by
          rw [show d - nx = (d - (nx + 1)) + 1 by omega, List.range'_succ]
        rw [this]
        simpa using hM
    · refine hK nx w ⟨h.fr, h.set, h.ptr, h.num, ⟨a, l, c, h1, ?_⟩, h.nxt⟩
      rw [take_full (by omega)]; exact h2
theorem c42 {w0 w : World} {bs d : Nat} {pre rest : List Nat} (hS : S = pre ++ d :: rest) (hbs : w0.heap.size ≤ bs) (hb : b < bs) (hm : m < bs) (h : Mi w0 b m bs cum S N (missA pre).1 (missA pre).2 w) :
    Calls Tryd.prog 42 #[.int .i64 (d : Int), .pointer (some ⟨bs + 3, 0, none⟩), .pointer (some ⟨bs + 2, 0, none⟩), .pointer (some ⟨bs + 1, 0, none⟩), .pointer (some ⟨bs, 0, none⟩)] w (rt fun v w' => v = .tuple #[] ∧ Mi w0 b m bs cum S N (missA (pre ++ [d])).1 (missA (pre ++ [d])).2 w') := by
  refine F42_ok ?_
  unfold F42
  simp only [rdA_mk, rdI_mk]
  have hd := h.set.rng d (by rw [hS]; simp)
  have hr : (pre ++ d :: rest).Pairwise (· < ·) := by rw [← hS]; exact h.set.rising
  obtain ⟨b1, b2, b3⟩ := missA_bound pre (List.pairwise_append.1 hr).1 fun e he => by have := h.set.rng e (by rw [hS]; simp [he]); omega
  have hnx : (missA pre).2 ≤ 65536 := by
    rw [missA_next]
    rcases List.eq_nil_or_concat pre with rfl | ⟨r, e, rfl⟩
    · simp
    · have := h.set.rng e (by rw [hS]; simp)
      simp [List.getLastD_eq_getLast?]; omega
  refine ⟨d - (missA pre).2 + 1, c42_loop hd.2 hbs hb hm _ _ _ _ _ rfl h hnx b1 (by omega) fun nx' w' h' _g => ?_⟩
  simp only [rdA_mk, rdI_mk]
  have f3 := (Fr.refl (S := fun k => bs + 3 ≤ k) w').sb (b := bs + 3) (o := .cells (#[.int .i64 (nx' : Int)].setIfInBounds 0 (.int .i64 (IntKind.wrap .i64 ((d : Int) + 1)))) 3 (0, 0)) fun _ => Nat.le_refl _
  refine stc_at h'.nxt (by simp) ⟨trivial, ?_⟩
  obtain ⟨a, l, c, h1, h2⟩ := h'.out
  refine ⟨(h'.fr.mono (S' := fun k => w0.heap.size ≤ k) fun _ _ x => x.elim).trans f3 (fun i _ (x : bs + 3 ≤ i) => by omega) |>.mono fun i hi x => by omega, h'.set.fr f3 (by omega) (by omega), f3.blk h'.ptr (by omega), f3.blk h'.num (by omega), ⟨a, l, c, f3.blk h1 (by omega), ?_⟩, ?_⟩
  · rw [missA_snoc]
    refine h2.fr ((Fr.refl w').sb (S := (· = bs + 3)) fun _ => rfl) fun k hk x => ?_
    subst x
    have := (h2.base_le hk).1
    omega
  · rw [missA_snoc]
    have e1 : IntKind.wrap .i64 ((d : Int) + 1) = ((d + 1 : Nat) : Int) := by rw [wrap_i64 (by omega) (by omega)]; omega
    rw [e1]
    exact sb_same h'.nxt
def missS (S : List Nat) (N : Int) : List Nat := (missA S).1.take N.toNat
theorem c18 {w : World} (ht : TB w) (h : SetR w b m cum S) (N : Int) :
    Calls Tryd.prog 18 #[.pointer (some ⟨b, 0, none⟩), .int .i64 N] w (rt fun v w' => ∃ a c, v = .slice a (missS S N).length c ∧ Own w' w.heap.size 22 1 a (missS S N).length c (numV cum (missS S N)) ∧ Same w w') := by
  refine F18_ok ?_
  unfold F18 alc
  simp only [rdP_mk, rdI_mk]
  have hbl := h.blt
  have hml := h.mlt
  obtain ⟨w1, hw1⟩ : ∃ w1, w1 = (w.alloc (.cells #[.pointer (some ⟨b, 0, none⟩)] 25)).alloc (.cells #[.int .i64 N] 3) := ⟨_, rfl⟩
  have z1 : w1.heap.size = w.heap.size + 2 := by rw [hw1]; simp
  have n1 : w1.heap[w.heap.size + 1]? = some (.cells #[.int .i64 N] 3 (0, 0)) := by
    have := alloc_new (w.alloc (.cells #[.pointer (some ⟨b, 0, none⟩)] 25)) (.cells #[.int .i64 N] 3)
    rw [← hw1] at this
    simpa using this
  have p1 : w1.heap[w.heap.size]? = some (.cells #[.pointer (some ⟨b, 0, none⟩)] 25 (0, 0)) := by rw [hw1]; exact alloc_blk (alloc_new _ _)
  have f1 : Same w w1 := by rw [hw1]; exact ((Fr.refl w).alloc _).alloc _
  have hsz : (w.alloc (.cells #[.pointer (some ⟨b, 0, none⟩)] 25)).heap.size = w.heap.size + 1 := by simp
  rw [← hw1, hsz]
  clear hw1 hsz
  refine ldP_at p1 rfl ?_
  refine clr (c35 (h.same f1)) ⟨_, rfl, ?_⟩
  simp only [Bool.not_true, br_false]
  refine ldI_at n1 rfl ?_
  simp only [br_dec]
  refine ⟨fun h1 => ⟨none, 0, ?_, ?_, f1⟩, fun h1 => ?_⟩
  · have : missS S N = [] := by unfold missS; rw [show N.toNat = 0 by omega, List.take_zero]
    rw [this]; rfl
  · have : missS S N = [] := by unfold missS; rw [show N.toNat = 0 by omega, List.take_zero]
    rw [this]; exact Own.nil _ _ _ _
  unfold F18_1 alc
  simp only [rdA_mk]
  obtain ⟨w2, hw2⟩ : ∃ w2, w2 = (w1.alloc (.cells #[.slice none 0 0] 30)).alloc (.cells #[.int .i64 0] 3) := ⟨_, rfl⟩
  have z2 : w2.heap.size = w.heap.size + 4 := by rw [hw2]; simp; omega
  have o2 : w2.heap[w.heap.size + 2]? = some (.cells #[.slice none 0 0] 30 (0, 0)) := by rw [hw2, ← z1]; exact alloc_blk (alloc_new _ _)
  have x2 : w2.heap[w.heap.size + 3]? = some (.cells #[.int .i64 0] 3 (0, 0)) := by
    have := alloc_new (w1.alloc (.cells #[.slice none 0 0] 30)) (.cells #[.int .i64 0] 3)
    rw [← hw2] at this
    simpa [z1] using this
  have n2 : w2.heap[w.heap.size + 1]? = some (.cells #[.int .i64 N] 3 (0, 0)) := by rw [hw2]; exact alloc_blk (alloc_blk n1)
  have p2 : w2.heap[w.heap.size]? = some (.cells #[.pointer (some ⟨b, 0, none⟩)] 25 (0, 0)) := by rw [hw2]; exact alloc_blk (alloc_blk p1)
  have f2 : Same w w2 := by rw [hw2]; exact (f1.alloc _).alloc _
  have hsz : (w1.alloc (.cells #[.slice none 0 0] 30)).heap.size = w.heap.size + 3 := by simp; omega
  rw [← hw2, hsz, z1]
  clear hw2 hsz
  refine stc_at x2 (by simp) ?_
  generalize hw3 : sb w2 (w.heap.size + 3) _ = w3
  have f3 : Same w w3 := by rw [← hw3]; exact f2.sb fun x => by omega
  have x3 : w3.heap[w.heap.size + 3]? = some (.cells #[.int .i64 1] 3 (0, 0)) := by rw [← hw3]; exact sb_same x2
  have o3 : w3.heap[w.heap.size + 2]? = some (.cells #[.slice none 0 0] 30 (0, 0)) := by rw [← hw3, sb_other (by omega)]; exact o2
  have n3 : w3.heap[w.heap.size + 1]? = some (.cells #[.int .i64 N] 3 (0, 0)) := by rw [← hw3, sb_other (by omega)]; exact n2
  have p3 : w3.heap[w.heap.size]? = some (.cells #[.pointer (some ⟨b, 0, none⟩)] 25 (0, 0)) := by rw [← hw3, sb_other (by omega)]; exact p2
  clear hw3
  have start : Mi w b m w.heap.size cum S N (missA []).1 (missA []).2 w3 := ⟨f3, h.same f3, p3, n3, ⟨none, 0, 0, o3, by simpa [missA, numV] using Own.nil _ _ _ _⟩, x3⟩
  have E : Each b m S (.func (.func 42) #[] #[.pointer (some ⟨w.heap.size + 3, 0, none⟩), .pointer (some ⟨w.heap.size + 2, 0, none⟩), .pointer (some ⟨w.heap.size + 1, 0, none⟩), .pointer (some ⟨w.heap.size, 0, none⟩)]) (fun pre => Mi w b m w.heap.size cum S N (missA pre).1 (missA pre).2) :=
    { rising := h.rising
      bound := fun d hd => by have := h.rng d hd; omega
      tab := fun pre w' hI => ht.fr hI.fr fun x => x
      fld := fun pre w' hI => by obtain ⟨f, k1, k2⟩ := hI.set.fld.map; exact ⟨_, _, f, hI.set.fld.blk, rfl, k1, k2⟩
      step := fun pre d rest w' hS hI => by
        refine callV_of (by kernel_rfl) (call_of (c42 (rest := rest) hS (Nat.le_refl _) hbl hml hI) ?_)
        rintro _ w'' ⟨v, rfl, rfl, h2⟩
        exact ⟨rfl, rfl, h2⟩ }
  refine ldP_at p3 rfl ?_
  simp only [nn_some, add_mk]
  refine cl (c36 E (start.set.fld.blk) rfl start) ?_
  rintro _ w' ⟨rfl, hI⟩
  obtain ⟨a, l, c, h1, h2⟩ := hI.out
  have hl : l = (missS S N).length := by have := h2.length; simp [numV] at this; simp [missS]; omega
  subst hl
  refine ⟨rfl, ldC_at h1 rfl fun _g => ?_⟩
  simp only [rdC_mk]
  exact ⟨a, c, rfl, h2.mono (by omega), hI.fr⟩
end
end Go.Proofs.YtjcigidbnpmeaaaDoor
