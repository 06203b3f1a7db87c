/-
  Go's sort of numbers of 32 bits: exchange, insertion, heap.
-/
import Derived.Test.YtaflmpbeonoilaaRmF1
import Derived.Test.YtaflmpbeonoilaaRmA
import Derived.Test.YtaflmpbeonoilaaShMr
import Derived.Sort.AssemblyPlain
namespace Go.Proofs.Ytaflmpbeonoilaa
open Go Go.Sh Go.RowKit Go.Sort
/-- The numbers of a slice, which lies first. -/
def UN (W : World) (L : List HP) (e : TypeId) (a : Addr) (n c : Nat) (d : Array Int) (w : World) : Prop :=
  d.size = n ∧ n ≤ 1152921504606846976 ∧ Hs W (slP e 1 (some a) n c (inV .u32 d.toList) :: L) w
section
variable {W w : World} {L : List HP} {e : TypeId} {a : Addr} {n c : Nat} {d : Array Int}
theorem UN.ld {i : Int} {p : Nat} {K : Int → Prop} (h : UN W L e a n c d w) (hi : i = (p : Int)) (hp : p < n) (hk : K d[p]!) : ixS 1 (some a) n i fun b => ldI .u32 b w K := by
  refine ixS_to hi hp ?_
  rw [Nat.mul_one]
  refine ldI_c ((h.2.2.rd 0 rfl).at (inV_at (x := d[p]!) ?_)) hk
  rw [Array.getElem?_toList]
  have : p < d.size := by rw [h.1]; exact hp
  simp [this]
theorem swp_list {p q : Nat} (_ : p < d.size) (_ : q < d.size) : (swp d q p).toList = (d.toList.set q d[p]!).set p d[q]! := by
  unfold swp
  simp
theorem UN.swp {i j : Int} {p q : Nat} {K : World → Prop} (h : UN W L e a n c d w) (hi : i = (p : Int)) (hj : j = (q : Int)) (hp : p < n) (hq : q < n) (hk : ∀ w', UN W L e a n c (swp d q p) w' → K w') :
    Sh.drw w fun w1 => ixS 1 (some a) n i fun b => ldI .u32 b w1 fun x => ixS 1 (some a) n j fun b => ldI .u32 b w1 fun y => ixS 1 (some a) n j fun b => Sh.stc b (.int .u32 x) w1 fun w2 => ixS 1 (some a) n i fun b => Sh.stc b (.int .u32 y) w2 K := by
  refine h.2.2.drw fun w1 h1 => ?_
  have u1 : UN W L e a n c d w1 := ⟨h.1, h.2.1, h1⟩
  refine u1.ld hi hp ?_
  refine u1.ld hj hq ?_
  refine ixS_to hj hq ?_
  rw [Nat.mul_one]
  refine h1.put 0 rfl (by rw [inV_length, Array.length_toList, h.1]; exact hq) fun w2 h2 => ?_
  refine ixS_to hi hp ?_
  rw [Nat.mul_one]
  refine Hs.put h2 0 rfl (by rw [List.length_set, inV_length, Array.length_toList, h.1]; exact hp) fun w3 h3 => ?_
  refine hk w3 ⟨by rw [← h.1]; simp [Go.Sort.swp], h.2.1, ?_⟩
  rw [swp_list (by rw [h.1]; exact hp) (by rw [h.1]; exact hq)]
  have e1 : inV .u32 ((d.toList.set q d[p]!).set p d[q]!) = ((inV .u32 d.toList).set q (.int .u32 d[p]!)).set p (.int .u32 d[q]!) := by simp [inV, List.map_set]
  rw [e1]
  exact h3
theorem c99 {x : Int} : Calls Try.prog 99 #[.int .u32 x] w (rt (KR (.bool false) w)) := by
  refine F99_ok ?_
  unfold F99
  simp only [rdI_mk]
  have : (x != x) = false := by simp
  rw [this]
  exact KR.mk _ _
theorem c86 {x y : Int} : Calls Try.prog 86 #[.int .u32 x, .int .u32 y] w (rt (KR (.bool (ltInt x y)) w)) := by
  refine F86_ok ?_
  unfold F86
  simp only [rdI_mk]
  refine clr c99 ⟨_, rfl, ?_⟩
  rw [br_iff]
  refine ⟨fun hx => by simp at hx, fun _ => KR.mk _ _⟩
/-! insertion -/
theorem ins_in {K : Value → Value → Value → Value → World → Prop} {a' b i0 : Nat} : ∀ (j k : Nat) (d : Array Int) (w : World), UN W L e a n c d w → j < n → j < k → (∀ w', UN W L e a n c (insInner ltInt a' j d) w' → K (.slice (some a) n c) (.int .i64 (a' : Int)) (.int .i64 (b : Int)) (.int .i64 (i0 : Int)) w') →
    F80_2 K k (.slice (some a) n c) (.int .i64 (a' : Int)) (.int .i64 (b : Int)) (.int .i64 (i0 : Int)) (.int .i64 (j : Int)) w := by
  intro j
  induction j with
  | zero =>
    intro k d w h hj hk hK
    obtain ⟨k, rfl⟩ : ∃ j, k = j + 1 := ⟨k - 1, by omega⟩
    show F80_2B _ _ _ _ _ _ _ _
    unfold F80_2B
    simp only [rdC_mk, rdI_mk]
    refine h.2.2.drw fun w1 h1 => ?_
    rw [br_dec]
    exact ⟨fun hx => by exfalso; omega, fun _ => hK w1 ⟨h.1, h.2.1, h1⟩⟩
  | succ j ih =>
    intro k d w h hj hk hK
    obtain ⟨k, rfl⟩ : ∃ j, k = j + 1 := ⟨k - 1, by omega⟩
    have hn := h.2.1
    show F80_2B _ _ _ _ _ _ _ _
    unfold F80_2B
    simp only [rdC_mk, rdI_mk]
    refine h.2.2.drw fun w1 h1 => ?_
    have u1 : UN W L e a n c d w1 := ⟨h.1, h.2.1, h1⟩
    have e1 : IntKind.wrap .i64 (((j + 1 : Nat) : Int) - 1) = (j : Int) := by rw [wrap_i64 (by omega) (by omega)]; omega
    unfold insInner at hK
    rw [br_dec]
    refine ⟨fun hx => ?_, fun hx => ?_⟩
    · refine u1.ld rfl hj ?_
      refine u1.ld e1 (by omega) ?_
      refine clr c86 ⟨_, rfl, ?_⟩
      rw [br_iff]
      refine ⟨fun hb => ?_, fun hb => ?_⟩
      · unfold F80_1
        simp only [rdC_mk, rdI_mk]
        refine u1.swp e1 rfl (by omega) hj fun w2 h2 _g => ?_
        rw [e1]
        refine ih k _ w2 h2 (by omega) (by omega) fun w' hw' => hK w' ?_
        rw [if_pos (by simp [hb]; omega)]
        exact hw'
      · refine hK w1 ?_
        rw [if_neg (by simp [hb])]
        exact u1
    · refine hK w1 ?_
      rw [if_neg (by simp; omega)]
      exact u1
theorem ins_out {K : World → Prop} {a' b : Nat} (hb : b ≤ n) : ∀ (m i k : Nat) (d : Array Int) (w : World), UN W L e a n c d w → b ≤ i + m → m < k → (∀ w', UN W L e a n c (insOuter ltInt a' b i d) w' → K w') →
    F80_3 K k (.slice (some a) n c) (.int .i64 (a' : Int)) (.int .i64 (b : Int)) (.int .i64 (i : Int)) w := by
  intro m
  induction m with
  | zero =>
    intro i k d w h hm hk hK
    obtain ⟨k, rfl⟩ : ∃ j, k = j + 1 := ⟨k - 1, by omega⟩
    show F80_3B _ _ _ _ _ _ _
    unfold F80_3B
    simp only [rdC_mk, rdI_mk]
    rw [insOuter, if_neg (by omega)] at hK
    rw [br_dec]
    exact ⟨fun hx => by exfalso; omega, fun _ => hK w h⟩
  | succ m ih =>
    intro i k d w h hm hk hK
    obtain ⟨k, rfl⟩ : ∃ j, k = j + 1 := ⟨k - 1, by omega⟩
    have hn := h.2.1
    show F80_3B _ _ _ _ _ _ _
    unfold F80_3B
    simp only [rdC_mk, rdI_mk]
    rw [insOuter] at hK
    rw [br_dec]
    refine ⟨fun hx => ?_, fun hx => hK w (by rw [if_neg (by omega)]; exact h)⟩
    rw [if_pos (by omega)] at hK
    refine ⟨i + 1, ins_in i _ d w h (by omega) (by omega) fun w1 h1 _g => ?_⟩
    simp only [rdC_mk, rdI_mk]
    have e1 : IntKind.wrap .i64 ((i : Int) + 1) = ((i + 1 : Nat) : Int) := by rw [wrap_i64 (by omega) (by omega)]; omega
    rw [e1]
    exact ih (i + 1) k _ w1 h1 (by omega) (by omega) hK
theorem c80 {a' b : Nat} (h : UN W L e a n c d w) (ha : a' ≤ n) (hb : b ≤ n) : Calls Try.prog 80 #[.slice (some a) n c, .int .i64 (a' : Int), .int .i64 (b : Int)] w (rt fun v w' => v = .tuple #[] ∧ UN W L e a n c (insertionSort ltInt d a' b) w') := by
  refine F80_ok ?_
  unfold F80
  simp only [rdC_mk, rdI_mk]
  have hn := h.2.1
  have e1 : IntKind.wrap .i64 ((a' : Int) + 1) = ((a' + 1 : Nat) : Int) := by rw [wrap_i64 (by omega) (by omega)]; omega
  rw [e1]
  exact ⟨b + 1, ins_out hb b (a' + 1) _ d w h (by omega) (by omega) fun w' h' _g => ⟨trivial, h'⟩⟩
/-! the heap -/
theorem sift_go {Kn : Value → Value → Value → Value → World → Prop} {Kr : World → Prop} {hi f r ch : Nat} (h : UN W L e a n c d w) (hr : f + r < n) (hc : f + ch < n)
    (h0 : ltInt d[f + r]! d[f + ch]! = false → ∀ w', UN W L e a n c d w' → Kr w')
    (h1 : ltInt d[f + r]! d[f + ch]! = true → ∀ w', UN W L e a n c (swp d (f + r) (f + ch)) w' → Kn (.slice (some a) n c) (.int .i64 (hi : Int)) (.int .i64 (f : Int)) (.int .i64 (ch : Int)) w') :
    F96_1 Kn Kr (.slice (some a) n c) (.int .i64 (hi : Int)) (.int .i64 (f : Int)) (.int .i64 (r : Int)) (.int .i64 (ch : Int)) w := by
  unfold F96_1
  simp only [rdC_mk, rdI_mk]
  have hn := h.2.1
  have e1 : IntKind.wrap .i64 ((f : Int) + r) = ((f + r : Nat) : Int) := by rw [wrap_i64 (by omega) (by omega)]; omega
  have e2 : IntKind.wrap .i64 ((f : Int) + ch) = ((f + ch : Nat) : Int) := by rw [wrap_i64 (by omega) (by omega)]; omega
  refine h.2.2.drw fun w1 g1 => ?_
  have u1 : UN W L e a n c d w1 := ⟨h.1, h.2.1, g1⟩
  refine u1.ld e1 hr ?_
  refine u1.ld e2 hc ?_
  refine clr c86 ⟨_, rfl, ?_⟩
  rw [br_iff]
  refine ⟨fun hb => h0 (by simpa using hb) w1 u1, fun hb => ?_⟩
  exact u1.swp e2 e1 hc hr fun w2 h2 => h1 (by simpa using hb) w2 h2
theorem sift_loop {K : World → Prop} {hi f : Nat} (hh : f + hi ≤ n) : ∀ (m r k : Nat) (d : Array Int) (w : World), UN W L e a n c d w → r ≤ hi → hi < r + m → m ≤ k → (∀ w', UN W L e a n c (siftDown ltInt hi f r d) w' → K w') →
    F96_2 K K k (.slice (some a) n c) (.int .i64 (hi : Int)) (.int .i64 (f : Int)) (.int .i64 (r : Int)) w := by
  intro m
  induction m with
  | zero =>
    intro r k d w h hr hm hk hK
    omega
  | succ m ih =>
    intro r k d w h hr hm hk hK
    obtain ⟨k, rfl⟩ : ∃ j, k = j + 1 := ⟨k - 1, by omega⟩
    have hn := h.2.1
    show F96_2B _ _ _ _ _ _ _ _
    unfold F96_2B
    simp only [rdC_mk, rdI_mk]
    rw [siftDown] at hK
    have e2 : IntKind.wrap .i64 (2 * (r : Int)) = ((2 * r : Nat) : Int) := by rw [wrap_i64 (by omega) (by omega)]; omega
    have e3 : IntKind.wrap .i64 (((2 * r : Nat) : Int) + 1) = ((2 * r + 1 : Nat) : Int) := by rw [wrap_i64 (by omega) (by omega)]; omega
    have e4 : IntKind.wrap .i64 (((2 * r + 1 : Nat) : Int) + 1) = ((2 * r + 2 : Nat) : Int) := by rw [wrap_i64 (by omega) (by omega)]; omega
    simp only [e2, e3, e4]
    rw [br_dec]
    refine ⟨fun hx => hK w (by rw [dif_pos (by omega)]; exact h), fun hx => ?_⟩
    rw [dif_neg (by omega)] at hK
    have e5 : IntKind.wrap .i64 ((f : Int) + ((2 * r + 1 : Nat) : Int)) = ((f + (2 * r + 1) : Nat) : Int) := by rw [wrap_i64 (by omega) (by omega)]; omega
    have e6 : IntKind.wrap .i64 (((f + (2 * r + 1) : Nat) : Int) + 1) = ((f + (2 * r + 1) + 1 : Nat) : Int) := by rw [wrap_i64 (by omega) (by omega)]; omega
    simp only [e5, e6]
    have one : ∀ w1 (Kn : Value → Value → Value → Value → World → Prop) (Kr : World → Prop), UN W L e a n c d w1 → (∀ w', UN W L e a n c (if !ltInt d[f + r]! d[f + (2 * r + 1)]! then d else siftDown ltInt hi f (2 * r + 1) (swp d (f + r) (f + (2 * r + 1)))) w' → K w') →
        (∀ w', F96_2 K K k (.slice (some a) n c) (.int .i64 (hi : Int)) (.int .i64 (f : Int)) (.int .i64 ((2 * r + 1 : Nat) : Int)) w' → Kn (.slice (some a) n c) (.int .i64 (hi : Int)) (.int .i64 (f : Int)) (.int .i64 ((2 * r + 1 : Nat) : Int)) w') → (∀ w', K w' → Kr w') →
        F96_1 Kn Kr (.slice (some a) n c) (.int .i64 (hi : Int)) (.int .i64 (f : Int)) (.int .i64 (r : Int)) (.int .i64 ((2 * r + 1 : Nat) : Int)) w1 := by
      intro w1 Kn Kr u1 hk1 hn' hr'
      refine sift_go u1 (by omega) (by omega) (fun hl w' hw => hr' w' (hk1 w' (by rw [if_pos (by simp [hl])]; exact hw))) fun hl w' hw => hn' w' ?_
      exact ih (2 * r + 1) k _ w' hw (by omega) (by omega) (by omega) fun w2 h2 => hk1 w2 (by rw [if_neg (by simp [hl])]; exact h2)
    refine h.2.2.drw fun w1 g1 => ?_
    have u1 : UN W L e a n c d w1 := ⟨h.1, h.2.1, g1⟩
    rw [br_dec]
    refine ⟨fun h2 => ?_, fun h2 => ?_⟩
    · refine u1.ld rfl (by omega) ?_
      refine u1.ld rfl (by omega) ?_
      refine clr c86 ⟨_, rfl, ?_⟩
      rw [br_iff]
      refine ⟨fun hb => ?_, fun hb => ?_⟩
      · rw [if_pos (by rw [hb]; simp; omega)] at hK
        refine sift_go u1 (by omega) (by omega) (fun hl w' hw _g => hK w' (by rw [if_pos (by simp [hl])]; exact hw)) fun hl w' hw _g => ?_
        simp only [rdC_mk, rdI_mk]
        exact ih (2 * r + 2) k _ w' hw (by omega) (by omega) (by omega) fun w2 h2 => hK w2 (by rw [if_neg (by simp [hl]), dif_pos (by omega)]; exact h2)
      · rw [if_neg (by rw [hb]; simp)] at hK
        exact one w1 _ _ u1 hK (fun w' hw _g => by simp only [rdC_mk, rdI_mk]; exact hw) fun w' hw _g => hw
    · rw [if_neg (by simp; omega)] at hK
      exact one w1 _ _ u1 hK (fun w' hw _g => by simp only [rdC_mk, rdI_mk]; exact hw) fun w' hw _g => hw
end
end Go.Proofs.Ytaflmpbeonoilaa
namespace Go.Proofs.Ytaflmpbeonoilaa
open Go Go.Sh Go.RowKit Go.Sort
section
variable {W w : World} {L : List HP} {e : TypeId} {a : Addr} {n c : Nat} {d : Array Int}
theorem c96 {r hi f : Nat} (h : UN W L e a n c d w) (hh : f + hi ≤ n) (hr : r ≤ hi) : Calls Try.prog 96 #[.slice (some a) n c, .int .i64 (r : Int), .int .i64 (hi : Int), .int .i64 (f : Int)] w (rt fun v w' => v = .tuple #[] ∧ UN W L e a n c (siftDown ltInt hi f r d) w') := by
  refine F96_ok ?_
  unfold F96
  simp only [rdC_mk, rdI_mk]
  exact ⟨hi + 1, sift_loop hh (hi + 1) r _ d w h hr (by omega) (by omega) fun w' h' _g => ⟨trivial, h'⟩⟩
theorem build_loop {K : Value → Value → Value → Value → World → Prop} {f lo hi : Nat} (hh : f + hi ≤ n) : ∀ (m k : Nat) (d : Array Int) (w : World), UN W L e a n c d w → m ≤ hi + 1 → m < k → (∀ w', UN W L e a n c (heapBuild ltInt hi f m d) w' → K (.slice (some a) n c) (.int .i64 (f : Int)) (.int .i64 (lo : Int)) (.int .i64 (hi : Int)) w') →
    F81_1 K k (.slice (some a) n c) (.int .i64 (f : Int)) (.int .i64 (lo : Int)) (.int .i64 (hi : Int)) (.int .i64 ((m : Int) - 1)) w := by
  intro m
  induction m with
  | zero =>
    intro k d w h hm hk hK
    obtain ⟨k, rfl⟩ : ∃ j, k = j + 1 := ⟨k - 1, by omega⟩
    show F81_1B _ _ _ _ _ _ _ _
    unfold F81_1B
    simp only [rdC_mk, rdI_mk]
    rw [br_dec]
    exact ⟨fun hx => by exfalso; omega, fun _ => hK w h⟩
  | succ m ih =>
    intro k d w h hm hk hK
    obtain ⟨k, rfl⟩ : ∃ j, k = j + 1 := ⟨k - 1, by omega⟩
    have hn := h.2.1
    show F81_1B _ _ _ _ _ _ _ _
    unfold F81_1B
    simp only [rdC_mk, rdI_mk]
    rw [br_dec]
    refine ⟨fun hx => ?_, fun hx => by exfalso; omega⟩
    have e1 : ((m + 1 : Nat) : Int) - 1 = (m : Int) := by omega
    rw [e1]
    refine cl (c96 h hh (by omega)) fun v w1 ⟨hv, h1⟩ => ⟨by rw [hv], ?_⟩
    have e2 : IntKind.wrap .i64 ((m : Int) - 1) = (m : Int) - 1 := wrap_i64 (by omega) (by omega)
    rw [e2]
    exact ih k _ w1 h1 (by omega) (by omega) hK
theorem pop_loop {K : World → Prop} {f lo : Nat} (hlo : lo = 0) : ∀ (m k : Nat) (d : Array Int) (w : World), UN W L e a n c d w → f + m ≤ n → m < k → (∀ w', UN W L e a n c (heapPop ltInt f m d) w' → K w') →
    F81_2 K k (.slice (some a) n c) (.int .i64 (f : Int)) (.int .i64 (lo : Int)) (.int .i64 ((m : Int) - 1)) w := by
  intro m
  induction m with
  | zero =>
    intro k d w h hm hk hK
    obtain ⟨k, rfl⟩ : ∃ j, k = j + 1 := ⟨k - 1, by omega⟩
    show F81_2B _ _ _ _ _ _ _
    unfold F81_2B
    simp only [rdC_mk, rdI_mk]
    rw [br_dec]
    exact ⟨fun hx => by exfalso; omega, fun _ => hK w h⟩
  | succ m ih =>
    intro k d w h hm hk hK
    obtain ⟨k, rfl⟩ : ∃ j, k = j + 1 := ⟨k - 1, by omega⟩
    have hn := h.2.1
    show F81_2B _ _ _ _ _ _ _
    unfold F81_2B
    simp only [rdC_mk, rdI_mk]
    rw [br_dec]
    refine ⟨fun hx => ?_, fun hx => by exfalso; omega⟩
    have e1 : ((m + 1 : Nat) : Int) - 1 = (m : Int) := by omega
    have e2 : IntKind.wrap .i64 ((f : Int) + m) = ((f + m : Nat) : Int) := by rw [wrap_i64 (by omega) (by omega)]; omega
    have e3 : IntKind.wrap .i64 ((m : Int) - 1) = (m : Int) - 1 := wrap_i64 (by omega) (by omega)
    simp only [e1, e2, e3]
    refine h.swp rfl rfl (by omega) (by omega) fun w1 h1 => ?_
    subst hlo
    refine cl (c96 h1 (by omega) (by omega)) fun v w2 ⟨hv, h2⟩ => ⟨by rw [hv], ?_⟩
    exact ih k _ w2 h2 (by omega) (by omega) hK
theorem c81 {a' b : Nat} (h : UN W L e a n c d w) (ha : a' ≤ b) (hb : b ≤ n) : Calls Try.prog 81 #[.slice (some a) n c, .int .i64 (a' : Int), .int .i64 (b : Int)] w (rt fun v w' => v = .tuple #[] ∧ UN W L e a n c (heapSort ltInt d a' b) w') := by
  refine F81_ok ?_
  unfold F81
  simp only [rdC_mk, rdI_mk]
  have hn := h.2.1
  have e1 : IntKind.wrap .i64 ((b : Int) - a') = ((b - a' : Nat) : Int) := by rw [wrap_i64 (by omega) (by omega)]; omega
  have e2 : IntKind.wrap .i64 (((b - a' : Nat) : Int) - 1) = ((b - a' : Nat) : Int) - 1 := wrap_i64 (by omega) (by omega)
  have e3 : Int.tdiv (((b - a' : Nat) : Int) - 1) 2 = ((((b - a' - 1) / 2 + 1 : Nat)) : Int) - 1 := by
    by_cases h0 : b - a' = 0
    · rw [h0]; decide
    · have : ((b - a' : Nat) : Int) - 1 = ((b - a' - 1 : Nat) : Int) := by omega
      rw [this, Int.tdiv_eq_ediv_of_nonneg (by omega)]
      omega
  have e4 : IntKind.wrap .i64 ((((b - a' - 1) / 2 + 1 : Nat) : Int) - 1) = (((b - a' - 1) / 2 + 1 : Nat) : Int) - 1 := wrap_i64 (by omega) (by omega)
  simp only [e1, e2, e3, e4]
  refine ⟨_, build_loop (lo := 0) (by omega) ((b - a' - 1) / 2 + 1) _ d w h (by omega) (Nat.lt_succ_self _) fun w1 h1 _g => ?_⟩
  simp only [rdC_mk, rdI_mk, e2]
  exact ⟨b - a' + 1, pop_loop rfl (b - a') _ _ w1 h1 (by omega) (by omega) fun w2 h2 _g => ⟨trivial, h2⟩⟩
/-! reversal -/
theorem rev_loop {K : World → Prop} : ∀ (m i j k : Nat) (d : Array Int) (w : World), UN W L e a n c d w → j ≤ i + m → j < n → m < k → (∀ w', UN W L e a n c (reverseLoop i j d) w' → K w') →
    F84_1 K k (.slice (some a) n c) (.int .i64 (i : Int)) (.int .i64 (j : Int)) w := by
  intro m
  induction m with
  | zero =>
    intro i j k d w h hm hj hk hK
    obtain ⟨k, rfl⟩ : ∃ j, k = j + 1 := ⟨k - 1, by omega⟩
    rw [reverseLoop, if_neg (by omega)] at hK
    show F84_1B _ _ _ _ _ _
    unfold F84_1B
    simp only [rdC_mk, rdI_mk]
    rw [br_dec]
    exact ⟨fun hx => by exfalso; omega, fun _ => hK w h⟩
  | succ m ih =>
    intro i j k d w h hm hj hk hK
    obtain ⟨k, rfl⟩ : ∃ j, k = j + 1 := ⟨k - 1, by omega⟩
    have hn := h.2.1
    rw [reverseLoop] at hK
    show F84_1B _ _ _ _ _ _
    unfold F84_1B
    simp only [rdC_mk, rdI_mk]
    rw [br_dec]
    refine ⟨fun hx => ?_, fun hx => hK w (by rw [if_neg (by omega)]; exact h)⟩
    rw [if_pos (by omega)] at hK
    refine h.swp rfl rfl hj (by omega) fun w1 h1 => ?_
    have e2 : IntKind.wrap .i64 ((i : Int) + 1) = ((i + 1 : Nat) : Int) := by rw [wrap_i64 (by omega) (by omega)]; omega
    have e3 : IntKind.wrap .i64 ((j : Int) - 1) = ((j - 1 : Nat) : Int) := by rw [wrap_i64 (by omega) (by omega)]; omega
    rw [e2, e3]
    exact ih (i + 1) (j - 1) k _ w1 h1 (by omega) (by omega) (by omega) hK
theorem c84 {a' b : Nat} (h : UN W L e a n c d w) (ha : a' < b) (hb : b ≤ n) : Calls Try.prog 84 #[.slice (some a) n c, .int .i64 (a' : Int), .int .i64 (b : Int)] w (rt fun v w' => v = .tuple #[] ∧ UN W L e a n c (reverseRange d a' b) w') := by
  refine F84_ok ?_
  unfold F84
  simp only [rdC_mk, rdI_mk]
  have hn := h.2.1
  have e1 : IntKind.wrap .i64 ((b : Int) - 1) = ((b - 1 : Nat) : Int) := by rw [wrap_i64 (by omega) (by omega)]; omega
  rw [e1]
  exact ⟨b + 1, rev_loop b a' (b - 1) _ d w h (by omega) (by omega) (by omega) fun w2 h2 _g => ⟨trivial, h2⟩⟩
/-! the length in bits, and the power behind it -/
def len8tab : ByteArray := ⟨#[0, 1, 2, 2, 3, 3, 3, 3, 4, 4, 4, 4, 4, 4, 4, 4, 5, 5, 5, 5, 5, 5, 5, 5, 5, 5, 5, 5, 5, 5, 5, 5, 6, 6, 6, 6, 6, 6, 6, 6, 6, 6, 6, 6, 6, 6, 6, 6, 6, 6, 6, 6, 6, 6, 6, 6, 6, 6, 6, 6, 6, 6, 6, 6, 7, 7, 7, 7, 7, 7, 7, 7, 7, 7, 7, 7, 7, 7, 7, 7, 7, 7, 7, 7, 7, 7, 7, 7, 7, 7, 7, 7, 7, 7, 7, 7, 7, 7, 7, 7, 7, 7, 7, 7, 7, 7, 7, 7, 7, 7, 7, 7, 7, 7, 7, 7, 7, 7, 7, 7, 7, 7, 7, 7, 7, 7, 7, 7, 8, 8, 8, 8, 8, 8, 8, 8, 8, 8, 8, 8, 8, 8, 8, 8, 8, 8, 8, 8, 8, 8, 8, 8, 8, 8, 8, 8, 8, 8, 8, 8, 8, 8, 8, 8, 8, 8, 8, 8, 8, 8, 8, 8, 8, 8, 8, 8, 8, 8, 8, 8, 8, 8, 8, 8, 8, 8, 8, 8, 8, 8, 8, 8, 8, 8, 8, 8, 8, 8, 8, 8, 8, 8, 8, 8, 8, 8, 8, 8, 8, 8, 8, 8, 8, 8, 8, 8, 8, 8, 8, 8, 8, 8, 8, 8, 8, 8, 8, 8, 8, 8, 8, 8, 8, 8, 8, 8, 8, 8, 8, 8, 8, 8, 8, 8, 8, 8, 8, 8, 8, 8, 8, 8, 8, 8, 8, 8]⟩
theorem len8_all : (List.range 256).all (fun x => len8tab[x]? == some (UInt8.ofNat (bitsLen x))) = true := by kernel_rfl
theorem len8_b : (List.range 256).all (fun x => decide (x < 2 ^ bitsLen x ∧ 2 ^ bitsLen x ≤ 2 * x + 1 ∧ bitsLen x ≤ 8)) = true := by kernel_rfl
def Qb (x b : Nat) : Prop := x < 2 ^ b ∧ 2 ^ b ≤ 2 * x + 1
theorem Qb.up {x b s : Nat} (h : Qb (x / 2 ^ s) b) (hx : 2 ^ s ≤ x) : Qb x (b + s) := by
  obtain ⟨h1, h2⟩ := h
  have hp : 0 < 2 ^ s := Nat.two_pow_pos s
  have hq : 1 ≤ x / 2 ^ s := (Nat.le_div_iff_mul_le hp).2 (by omega)
  refine ⟨?_, ?_⟩
  · rw [Nat.pow_add]
    exact (Nat.div_lt_iff_lt_mul hp).1 h1
  · obtain ⟨b', rfl⟩ : ∃ b', b = b' + 1 := ⟨b - 1, by
      rcases b with _ | b
      · simp at h1; omega
      · omega⟩
    have h3 : 2 ^ b' ≤ x / 2 ^ s := by rw [Nat.pow_succ] at h2; omega
    have h4 : 2 ^ b' * 2 ^ s ≤ x := (Nat.le_div_iff_mul_le hp).1 h3
    have e : 2 ^ (b' + 1 + s) = 2 * (2 ^ b' * 2 ^ s) := by rw [Nat.pow_add, Nat.pow_succ]; rw [Nat.mul_comm (2 ^ b') 2, Nat.mul_assoc]
    omega
theorem len_1 {K : Value → World → Prop} {x s : Nat} (hx : x < 256) (hs : s ≤ 56) (h : ∀ b, Qb x b → b ≤ 8 → K (.int .i64 ((s + b : Nat) : Int)) w) : F79_1 K (.int .u64 (x : Int)) (.int .i64 (s : Int)) w := by
  unfold F79_1
  refine rdI_mk.2 (rdI_mk.2 ?_)
  rw [wrap_u8 (by omega) (by omega)]
  have e1 := List.all_eq_true.1 len8_all x (by simp; omega)
  have e2 := List.all_eq_true.1 len8_b x (by simp; omega)
  replace e2 := of_decide_eq_true e2
  have e3 : len8tab[x]? = some (UInt8.ofNat (bitsLen x)) := eq_of_beq e1
  refine ⟨UInt8.ofNat (bitsLen x), ⟨by omega, e3⟩, ?_⟩
  have e4 : (UInt8.ofNat (bitsLen x)).toNat = bitsLen x := by
    have : bitsLen x < 256 := by omega
    simp [Nat.mod_eq_of_lt this]
  rw [e4]
  have e5 : IntKind.wrap .i64 ((bitsLen x : Nat) : Int) = ((bitsLen x : Nat) : Int) := wrap_i64 (by omega) (by omega)
  have e6 : IntKind.wrap .i64 ((s : Int) + ((bitsLen x : Nat) : Int)) = ((s + bitsLen x : Nat) : Int) := by rw [wrap_i64 (by omega) (by omega)]; omega
  show K (Value.int .i64 (IntKind.wrap .i64 ((s : Int) + IntKind.wrap .i64 ((bitsLen x : Nat) : Int)))) w
  rw [e5, e6]
  exact h _ ⟨e2.1, e2.2.1⟩ e2.2.2
theorem len_2 {K : Value → World → Prop} {x s : Nat} (hx : x < 65536) (hs : s ≤ 48) (h : ∀ b, Qb x b → b ≤ 16 → K (.int .i64 ((s + b : Nat) : Int)) w) : F79_2 K (.int .u64 (x : Int)) (.int .i64 (s : Int)) w := by
  unfold F79_2
  simp only [rdI_mk]
  rw [br_dec]
  refine ⟨fun hg => ?_, fun hg => ?_⟩
  · have e1 : Int.fdiv (x : Int) (2 ^ (min 8 (IntKind.bits .u64))) = ((x / 2 ^ 8 : Nat) : Int) := by
      rw [Int.fdiv_eq_ediv_of_nonneg _ (by decide)]; rfl
    have e2 : IntKind.wrap .i64 ((s : Int) + 8) = ((s + 8 : Nat) : Int) := by rw [wrap_i64 (by omega) (by omega)]; omega
    rw [e1, e2]
    refine len_1 (by omega) (by omega) fun b hb hb' _g => ?_
    simp only [rdI_mk]
    have := h (b + 8) (hb.up (by omega)) (by omega)
    rw [show s + 8 + b = s + (b + 8) by omega]
    exact this
  · refine len_1 (by omega) (by omega) fun b hb hb' _g => ?_
    simp only [rdI_mk]
    exact h b hb (by omega)
theorem len_3 {K : Value → World → Prop} {x s : Nat} (hx : x < 4294967296) (hs : s ≤ 32) (h : ∀ b, Qb x b → b ≤ 32 → K (.int .i64 ((s + b : Nat) : Int)) w) : F79_3 K (.int .u64 (x : Int)) (.int .i64 (s : Int)) w := by
  unfold F79_3
  simp only [rdI_mk]
  rw [br_dec]
  refine ⟨fun hg => ?_, fun hg => ?_⟩
  · have e1 : Int.fdiv (x : Int) (2 ^ (min 16 (IntKind.bits .u64))) = ((x / 2 ^ 16 : Nat) : Int) := by
      rw [Int.fdiv_eq_ediv_of_nonneg _ (by decide)]; rfl
    have e2 : IntKind.wrap .i64 ((s : Int) + 16) = ((s + 16 : Nat) : Int) := by rw [wrap_i64 (by omega) (by omega)]; omega
    rw [e1, e2]
    refine len_2 (by omega) (by omega) fun b hb hb' _g => ?_
    simp only [rdI_mk]
    have := h (b + 16) (hb.up (by omega)) (by omega)
    rw [show s + 16 + b = s + (b + 16) by omega]
    exact this
  · refine len_2 (by omega) (by omega) fun b hb hb' _g => ?_
    simp only [rdI_mk]
    exact h b hb (by omega)
theorem c57 {x : Nat} (hx : x < 18446744073709551616) : Calls Try.prog 57 #[.int .u64 (x : Int)] w (rt fun v w' => w' = w ∧ ∃ b : Nat, v = .int .i64 (b : Int) ∧ Qb x b ∧ b ≤ 64) := by
  refine F57_ok ?_
  unfold F57
  simp only [rdI_mk]
  have c79 : Calls Try.prog 79 #[.int .u64 (x : Int)] w (rt fun v w' => w' = w ∧ ∃ b : Nat, v = .int .i64 (b : Int) ∧ Qb x b ∧ b ≤ 64) := by
    refine F79_ok ?_
    unfold F79
    simp only [rdI_mk]
    rw [br_dec]
    refine ⟨fun hg => ?_, fun hg => ?_⟩
    · have e1 : Int.fdiv (x : Int) (2 ^ (min 32 (IntKind.bits .u64))) = ((x / 2 ^ 32 : Nat) : Int) := by
        rw [Int.fdiv_eq_ediv_of_nonneg _ (by decide)]; rfl
      rw [e1]
      refine len_3 (s := 32) (by omega) (by omega) fun b hb hb' _g => ?_
      simp only [rdI_mk]
      exact ⟨trivial, 32 + b, rfl, by rw [Nat.add_comm]; exact hb.up (by omega), by omega⟩
    · refine len_3 (s := 0) (by omega) (by omega) fun b hb hb' _g => ?_
      simp only [rdI_mk]
      exact ⟨trivial, 0 + b, rfl, by rw [Nat.zero_add]; exact hb, by omega⟩
  refine cl c79 fun v w' ⟨hw, b, hv, hb⟩ => ⟨(b : Int), by rw [hv], hw, b, rfl, hb⟩
theorem c92 {x : Nat} (h0 : 0 < x) (hx : x ≤ 1152921504606846976) : Calls Try.prog 92 #[.int .i64 (x : Int)] w (rt fun v w' => w' = w ∧ ∃ m : Nat, v = .int .u64 (m : Int) ∧ x < m ∧ m ≤ 2 * x ∧ 0 < m) := by
  refine F92_ok ?_
  unfold F92
  simp only [rdI_mk]
  rw [wrap_u64 (by omega) (by omega)]
  refine cl (c57 (by omega)) fun v w' ⟨hw, b, hv, ⟨hb1, hb2⟩, hb⟩ => ⟨(b : Int), by rw [hv], ?_⟩
  rw [shc_nat]
  have hb3 : b ≤ 61 := by
    rcases Nat.lt_or_ge 61 b with hc | hc
    · have : 2 ^ 62 ≤ 2 ^ b := Nat.pow_le_pow_right (by omega) hc
      have e : (2 : Nat) ^ 62 = 4611686018427387904 := by decide
      omega
    · exact hc
  have hb4 : 2 ^ b ≤ 2 * x := by
    rcases b with _ | b
    · simp at hb1; omega
    · rw [Nat.pow_succ] at hb2 ⊢; omega
  have e0 : min b (IntKind.bits .u64) = b := by
    have : IntKind.bits .u64 = 64 := rfl
    rw [this]; omega
  have e1 : IntKind.wrap .u64 (1 * 2 ^ (min b (IntKind.bits .u64))) = ((2 ^ b : Nat) : Int) := by
    rw [e0, Int.one_mul, show ((2 : Int) ^ b) = ((2 ^ b : Nat) : Int) by simp]
    exact wrap_u64 (by omega) (by omega)
  rw [e1]
  exact ⟨hw, 2 ^ b, rfl, hb1, hb4, Nat.two_pow_pos b⟩
end
end Go.Proofs.Ytaflmpbeonoilaa
