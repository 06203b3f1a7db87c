/-
  Go's sort of numbers of 32 bits: the pivot, the patterns broken.
-/
import Derived.Test.YtaflmpbeonoilaaRmSb
namespace Go.Proofs.Ytaflmpbeonoilaa
open Go Go.Sh Go.RowKit Go.Sort
theorem and_le (x : Int) {m : Nat} (hm : m < 18446744073709551616) : ∃ r : Nat, bitI .and .u64 x (m : Int) = (r : Int) ∧ r ≤ m := by
  refine ⟨(BitVec.ofInt 64 x &&& BitVec.ofInt 64 (m : Int)).toNat, ?_, ?_⟩
  · show IntKind.wrap .u64 (((BitVec.ofInt 64 x &&& BitVec.ofInt 64 (m : Int)).toNat : Nat) : Int) = _
    have := (BitVec.ofInt 64 x &&& BitVec.ofInt 64 (m : Int)).isLt
    exact wrap_u64 (by omega) (by omega)
  · rw [BitVec.toNat_and]
    refine Nat.le_trans Nat.and_le_right ?_
    rw [BitVec.toNat_ofInt]
    simp
    omega
section
variable {W w : World} {L : List HP} {A : HP} {e : TypeId} {a : Addr} {n c : Nat} {d : Array Int}
theorem c93 {b : Nat} {r : Int} (h : Hs W (A :: pt b (.cells #[.int .u64 r] 127) :: L) w) : Calls Try.prog 93 #[.pointer (some (Addr.mk b 0 none))] w (rt fun v w' => ∃ r' : Int, v = .int .u64 r' ∧ Hs W (A :: pt b (.cells #[.int .u64 r'] 127) :: L) w') := by
  refine F93_ok ?_
  unfold F93
  simp only [rdP_mk, nn_some]
  refine h.drw fun w1 h1 => ?_
  refine h1.ldI 1 rfl rfl ?_
  refine h1.ldI 1 rfl rfl ?_
  refine h1.stc 1 rfl (by simp) fun w2 h2 => ?_
  refine h2.drw fun w3 h3 => ?_
  refine h3.ldI 1 rfl rfl ?_
  refine h3.ldI 1 rfl rfl ?_
  refine h3.stc 1 rfl (by simp) fun w4 h4 => ?_
  refine h4.drw fun w5 h5 => ?_
  refine h5.ldI 1 rfl rfl ?_
  refine h5.ldI 1 rfl rfl ?_
  refine h5.stc 1 rfl (by simp) fun w6 h6 => ?_
  refine h6.ldI 1 rfl rfl ?_
  exact ⟨_, rfl, h6⟩
def Rn (b : Nat) (r : Int) : HP := pt b (.cells #[.int .u64 r] 127)
theorem brk_loop {K : World → Prop} {a' b b4 len md : Nat} (hb : b ≤ n) (hl : a' + len = b) (h8 : 8 ≤ len) (hm1 : len < md) (hm2 : md ≤ 2 * len) (d0 : Array Int) (hk0 : ∀ d' w', PermIn a' b d0 d' → UN W L e a n c d' w' → K w') :
    ∀ (m idx k : Nat) (r : Int) (d : Array Int) (w : World), UN W (Rn b4 r :: L) e a n c d w → PermIn a' b d0 d → a' ≤ idx → a' + len / 4 * 2 + 2 ≤ idx + m → m < k → 
    F82_2 K k (.slice (some a) n c) (.int .i64 (a' : Int)) (.int .i64 (len : Int)) (.pointer (some (Addr.mk b4 0 none))) (.int .u64 (md : Int)) (.int .i64 (idx : Int)) w := by
  intro m
  induction m with
  | zero =>
    intro idx k r d w h hp hi hm hk
    obtain ⟨k, rfl⟩ : ∃ j, k = j + 1 := ⟨k - 1, by omega⟩
    have hn := h.2.1
    have e1 : IntKind.wrap .i64 (Int.tdiv (len : Int) 4) = ((len / 4 : Nat) : Int) := by
      rw [Int.tdiv_eq_ediv_of_nonneg (by omega)]
      rw [wrap_i64 (by omega) (by omega)]; omega
    have e2 : IntKind.wrap .i64 (((len / 4 : Nat) : Int) * 2) = ((len / 4 * 2 : Nat) : Int) := by rw [wrap_i64 (by omega) (by omega)]; omega
    have e3 : IntKind.wrap .i64 ((a' : Int) + ((len / 4 * 2 : Nat) : Int)) = ((a' + len / 4 * 2 : Nat) : Int) := by rw [wrap_i64 (by omega) (by omega)]; omega
    have e4 : IntKind.wrap .i64 (((a' + len / 4 * 2 : Nat) : Int) + 1) = ((a' + len / 4 * 2 + 1 : Nat) : Int) := by rw [wrap_i64 (by omega) (by omega)]; omega
    show F82_2B _ _ _ _ _ _ _ _ _
    unfold F82_2B
    simp only [rdC_mk, rdI_mk, rdA_mk, e1, e2, e3, e4]
    rw [br_dec]
    exact ⟨fun hx => by exfalso; omega, fun _ => hk0 d w hp ⟨h.1, h.2.1, (h.2.2.erase 1 : Hs W (_ :: L) w)⟩⟩
  | succ m ih =>
    intro idx k r d w h hp hi hm hk
    obtain ⟨k, rfl⟩ : ∃ j, k = j + 1 := ⟨k - 1, by omega⟩
    have hn := h.2.1
    have e1 : IntKind.wrap .i64 (Int.tdiv (len : Int) 4) = ((len / 4 : Nat) : Int) := by
      rw [Int.tdiv_eq_ediv_of_nonneg (by omega)]
      rw [wrap_i64 (by omega) (by omega)]; omega
    have e2 : IntKind.wrap .i64 (((len / 4 : Nat) : Int) * 2) = ((len / 4 * 2 : Nat) : Int) := by rw [wrap_i64 (by omega) (by omega)]; omega
    have e3 : IntKind.wrap .i64 ((a' : Int) + ((len / 4 * 2 : Nat) : Int)) = ((a' + len / 4 * 2 : Nat) : Int) := by rw [wrap_i64 (by omega) (by omega)]; omega
    have e4 : IntKind.wrap .i64 (((a' + len / 4 * 2 : Nat) : Int) + 1) = ((a' + len / 4 * 2 + 1 : Nat) : Int) := by rw [wrap_i64 (by omega) (by omega)]; omega
    have e5 : IntKind.wrap .u64 ((md : Int) - 1) = ((md - 1 : Nat) : Int) := by rw [wrap_u64 (by omega) (by omega)]; omega
    show F82_2B _ _ _ _ _ _ _ _ _
    unfold F82_2B
    simp only [rdC_mk, rdI_mk, rdA_mk, e1, e2, e3, e4, e5]
    rw [br_dec]
    refine ⟨fun hx => ?_, fun _ => hk0 d w hp ⟨h.1, h.2.1, (h.2.2.erase 1 : Hs W (_ :: L) w)⟩⟩
    refine cl (c93 h.2.2) fun v w1 ⟨r', hv, h1⟩ => ⟨r', by rw [hv], ?_⟩
    obtain ⟨q, hq, hq'⟩ := and_le r' (m := md - 1) (by omega)
    rw [hq]
    have e6 : IntKind.wrap .i64 (q : Int) = (q : Int) := wrap_i64 (by omega) (by omega)
    rw [e6]
    have u1 : UN W (Rn b4 r' :: L) e a n c d w1 := ⟨h.1, h.2.1, h1⟩
    have e9 : IntKind.wrap .i64 ((idx : Int) + 1) = ((idx + 1 : Nat) : Int) := by rw [wrap_i64 (by omega) (by omega)]; omega
    have go : ∀ q' : Nat, q' < len → ∀ Kn : Value → Value → Value → Value → Value → Value → World → Prop, (∀ w2, F82_2 K k (.slice (some a) n c) (.int .i64 (a' : Int)) (.int .i64 (len : Int)) (.pointer (some (Addr.mk b4 0 none))) (.int .u64 (md : Int)) (.int .i64 ((idx + 1 : Nat) : Int)) w2 → Kn (.slice (some a) n c) (.int .i64 (a' : Int)) (.int .i64 (len : Int)) (.pointer (some (Addr.mk b4 0 none))) (.int .u64 (md : Int)) (.int .i64 (idx : Int)) w2) →
        F82_1 Kn (.slice (some a) n c) (.int .i64 (a' : Int)) (.int .i64 (len : Int)) (.pointer (some (Addr.mk b4 0 none))) (.int .u64 (md : Int)) (.int .i64 (idx : Int)) (.int .i64 (q' : Int)) w1 := by
      intro q' hq2 Kn hKn
      unfold F82_1
      simp only [rdC_mk, rdI_mk, rdA_mk]
      have e7 : IntKind.wrap .i64 ((a' : Int) + q') = ((a' + q' : Nat) : Int) := by rw [wrap_i64 (by omega) (by omega)]; omega
      refine u1.swp e7 rfl (by omega) (by omega) fun w2 u2 => hKn w2 ?_
      refine ih (idx + 1) k r' _ w2 u2 (permIn_trans _ _ _ _ _ hp (swp_permIn _ _ _ _ _ (by omega) (by omega) (by omega) (by omega) (by rw [h.1]; exact hb))) (by omega) (by omega) (by omega)
    rw [br_dec]
    refine ⟨fun hg => ?_, fun hg => ?_⟩
    · have e7 : IntKind.wrap .i64 ((q : Int) - len) = ((q - len : Nat) : Int) := by rw [wrap_i64 (by omega) (by omega)]; omega
      rw [e7]
      refine go (q - len) (by omega) _ fun w2 hw2 _g => ?_
      simp only [rdC_mk, rdI_mk, rdA_mk, e9]
      exact hw2
    · refine go q (by omega) _ fun w2 hw2 _g => ?_
      simp only [rdC_mk, rdI_mk, rdA_mk, e9]
      exact hw2
theorem c82 {a' b : Nat} (h : UN W L e a n c d w) (ha : a' + 12 < b) (hb : b ≤ n) : Calls Try.prog 82 #[.slice (some a) n c, .int .i64 (a' : Int), .int .i64 (b : Int)] w (rt fun v w' => v = .tuple #[] ∧ ∃ d', PermIn a' b d d' ∧ UN W L e a n c d' w') := by
  refine F82_ok ?_
  unfold F82
  simp only [rdC_mk, rdI_mk]
  have hn := h.2.1
  have e0 : IntKind.wrap .i64 ((b : Int) - a') = ((b - a' : Nat) : Int) := by rw [wrap_i64 (by omega) (by omega)]; omega
  have e1 : IntKind.wrap .i64 (Int.tdiv ((b - a' : Nat) : Int) 4) = (((b - a') / 4 : Nat) : Int) := by
    rw [Int.tdiv_eq_ediv_of_nonneg (by omega)]
    rw [wrap_i64 (by omega) (by omega)]; omega
  have e2 : IntKind.wrap .i64 ((((b - a') / 4 : Nat) : Int) * 2) = (((b - a') / 4 * 2 : Nat) : Int) := by rw [wrap_i64 (by omega) (by omega)]; omega
  have e3 : IntKind.wrap .i64 ((a' : Int) + (((b - a') / 4 * 2 : Nat) : Int)) = ((a' + (b - a') / 4 * 2 : Nat) : Int) := by rw [wrap_i64 (by omega) (by omega)]; omega
  have e4 : IntKind.wrap .i64 (((a' + (b - a') / 4 * 2 : Nat) : Int) - 1) = ((a' + (b - a') / 4 * 2 - 1 : Nat) : Int) := by rw [wrap_i64 (by omega) (by omega)]; omega
  simp only [e0, e1, e2, e3, e4]
  rw [br_dec]
  refine ⟨fun _ => ?_, fun hx => by exfalso; omega⟩
  refine h.2.2.alc fun b4 w1 h1 => ?_
  refine h1.stc 0 rfl (by simp) fun w2 h2 => ?_
  refine cl (c92 (x := b - a') (by omega) (by omega)) fun v w3 ⟨hw, md, hv, m1, m2, m3⟩ => ⟨(md : Int), by rw [hv], ?_⟩
  subst hw
  have u2 : UN W (Rn b4 (IntKind.wrap .u64 ((b - a' : Nat) : Int)) :: L) e a n c d w3 := ⟨h.1, h.2.1, h2.perm (List.Perm.swap _ _ _)⟩
  exact ⟨4, brk_loop (a' := a') (b := b) hb (by omega) (by omega) m1 m2 d (fun d' w' hp hu _g => ⟨trivial, d', hp, hu⟩) 3 _ 4 _ d w3 u2 (permIn_refl _ _ _) (by omega) (by omega) (by omega)⟩
/-! the pivot -/
def Cn (b : Nat) (s : Int) : HP := pt b (.cells #[.int .i64 s] 3)
theorem c101 {b4 p q : Nat} {s : Int} (h : UN W (Cn b4 s :: L) e a n c d w) (hp : p < n) (hq : q < n) : Calls Try.prog 101 #[.slice (some a) n c, .int .i64 (p : Int), .int .i64 (q : Int), .pointer (some (Addr.mk b4 0 none))] w (rt fun v w' => ∃ (x y : Nat) (s' : Int), v = .tuple #[.int .i64 (x : Int), .int .i64 (y : Int)] ∧ ((x = p ∧ y = q) ∨ (x = q ∧ y = p)) ∧ UN W (Cn b4 s' :: L) e a n c d w') := by
  refine F101_ok ?_
  unfold F101
  simp only [rdC_mk, rdI_mk, rdP_mk, nn_some]
  refine h.2.2.drw fun w1 h1 => ?_
  have u1 : UN W (Cn b4 s :: L) e a n c d w1 := ⟨h.1, h.2.1, h1⟩
  refine u1.ld rfl hq ?_
  refine u1.ld rfl hp ?_
  refine clr c86 ⟨_, rfl, ?_⟩
  rw [br_iff]
  refine ⟨fun _ => ?_, fun _ => ⟨p, q, s, rfl, Or.inl ⟨rfl, rfl⟩, u1⟩⟩
  refine Hs.ldI h1 1 rfl rfl ?_
  refine Hs.stc h1 1 rfl (by simp) fun w2 h2 => ?_
  exact ⟨q, p, _, rfl, Or.inr ⟨rfl, rfl⟩, h.1, h.2.1, h2⟩
theorem c98 {b4 p q r : Nat} {s : Int} (h : UN W (Cn b4 s :: L) e a n c d w) (hp : p < n) (hq : q < n) (hr : r < n) : Calls Try.prog 98 #[.slice (some a) n c, .int .i64 (p : Int), .int .i64 (q : Int), .int .i64 (r : Int), .pointer (some (Addr.mk b4 0 none))] w (rt fun v w' => ∃ (x : Nat) (s' : Int), v = .int .i64 (x : Int) ∧ (x = p ∨ x = q ∨ x = r) ∧ UN W (Cn b4 s' :: L) e a n c d w') := by
  refine F98_ok ?_
  unfold F98
  simp only [rdC_mk, rdI_mk, rdP_mk]
  refine cl (c101 h hp hq) fun v w1 ⟨x, y, s1, hv, hxy, u1⟩ => ⟨(x : Int), (y : Int), by rw [hv], ?_⟩
  refine cl (c101 u1 (p := y) (q := r) (by omega) hr) fun v w2 ⟨x2, y2, s2, hv, hxy2, u2⟩ => ⟨(x2 : Int), (y2 : Int), by rw [hv], ?_⟩
  refine cl (c101 u2 (p := x) (q := x2) (by omega) (by omega)) fun v w3 ⟨x3, y3, s3, hv, hxy3, u3⟩ => ⟨(x3 : Int), (y3 : Int), by rw [hv], ?_⟩
  exact ⟨y3, s3, rfl, by omega, u3⟩
theorem c97 {b4 p : Nat} {s : Int} (h : UN W (Cn b4 s :: L) e a n c d w) (h0 : 0 < p) (hp : p + 1 < n) : Calls Try.prog 97 #[.slice (some a) n c, .int .i64 (p : Int), .pointer (some (Addr.mk b4 0 none))] w (rt fun v w' => ∃ (x : Nat) (s' : Int), v = .int .i64 (x : Int) ∧ p ≤ x + 1 ∧ x ≤ p + 1 ∧ UN W (Cn b4 s' :: L) e a n c d w') := by
  refine F97_ok ?_
  unfold F97
  have hn := h.2.1
  have e1 : IntKind.wrap .i64 ((p : Int) - 1) = ((p - 1 : Nat) : Int) := by rw [wrap_i64 (by omega) (by omega)]; omega
  have e2 : IntKind.wrap .i64 ((p : Int) + 1) = ((p + 1 : Nat) : Int) := by rw [wrap_i64 (by omega) (by omega)]; omega
  simp only [rdC_mk, rdI_mk, rdP_mk, e1, e2]
  refine cl (c98 h (by omega) (by omega) (by omega)) fun v w1 ⟨x, s1, hv, hx, u1⟩ => ⟨(x : Int), by rw [hv], ?_⟩
  exact ⟨x, s1, rfl, by omega, by omega, u1⟩
theorem c83 {a' b : Nat} (h : UN W L e a n c d w) (ha : a' + 12 < b) (hb : b ≤ n) : Calls Try.prog 83 #[.slice (some a) n c, .int .i64 (a' : Int), .int .i64 (b : Int)] w (rt fun v w' => ∃ (x : Nat) (g : Int), v = .tuple #[.int .i64 (x : Int), .int .i64 g] ∧ a' ≤ x ∧ x < b ∧ UN W L e a n c d w') := by
  refine F83_ok ?_
  unfold F83
  have hn := h.2.1
  have e0 : IntKind.wrap .i64 ((b : Int) - a') = ((b - a' : Nat) : Int) := by rw [wrap_i64 (by omega) (by omega)]; omega
  have e1 : IntKind.wrap .i64 (Int.tdiv ((b - a' : Nat) : Int) 4) = (((b - a') / 4 : Nat) : Int) := by
    rw [Int.tdiv_eq_ediv_of_nonneg (by omega)]
    rw [wrap_i64 (by omega) (by omega)]; omega
  have ex : ∀ t : Nat, t ≤ 3 → IntKind.wrap .i64 ((((b - a') / 4 : Nat) : Int) * (t : Int)) = (((b - a') / 4 * t : Nat) : Int) := fun t ht => by
    have hq : (b - a') / 4 * t ≤ (b - a') / 4 * 3 := Nat.mul_le_mul_left _ ht
    rw [show (((b - a') / 4 : Nat) : Int) * (t : Int) = (((b - a') / 4 * t : Nat) : Int) by simp]
    exact wrap_i64 (by omega) (by omega)
  have ey : ∀ t : Nat, t ≤ 3 → IntKind.wrap .i64 ((a' : Int) + (((b - a') / 4 * t : Nat) : Int)) = ((a' + (b - a') / 4 * t : Nat) : Int) := fun t ht => by
    have hq : (b - a') / 4 * t ≤ (b - a') / 4 * 3 := Nat.mul_le_mul_left _ ht
    rw [wrap_i64 (by omega) (by omega)]
    simp
  have a1 := ex 1 (by omega); have a2 := ex 2 (by omega); have a3 := ex 3 (by omega)
  have b1 := ey 1 (by omega); have b2 := ey 2 (by omega); have b3 := ey 3 (by omega)
  simp only [rdC_mk, rdI_mk, e0, e1]
  have a1' : IntKind.wrap .i64 ((((b - a') / 4 : Nat) : Int) * 1) = (((b - a') / 4 * 1 : Nat) : Int) := a1
  have a2' : IntKind.wrap .i64 ((((b - a') / 4 : Nat) : Int) * 2) = (((b - a') / 4 * 2 : Nat) : Int) := a2
  have a3' : IntKind.wrap .i64 ((((b - a') / 4 : Nat) : Int) * 3) = (((b - a') / 4 * 3 : Nat) : Int) := a3
  simp only [a1', a2', a3', b1, b2, b3]
  clear ex ey a1 a2 a3 a1' a2' a3' b1 b2 b3
  refine h.2.2.alc fun b4 w1 h1 => ?_
  have u1 : UN W (Cn b4 0 :: L) e a n c d w1 := ⟨h.1, h.2.1, h1.perm (List.Perm.swap _ _ _)⟩
  have fin : ∀ (x : Nat) (s : Int) (w2 : World) (K : Value → World → Prop), a' ≤ x → x < b → UN W (Cn b4 s :: L) e a n c d w2 → (∀ g, K (.tuple #[.int .i64 (x : Int), .int .i64 g]) w2) → ldI .i64 (Addr.mk b4 0 none) w2 fun n18 => br (n18 == 0) (K (.tuple #[.int .i64 (x : Int), .int .i64 1]) w2) (br (n18 == 12) (K (.tuple #[.int .i64 (x : Int), .int .i64 2]) w2) (K (.tuple #[.int .i64 (x : Int), .int .i64 0]) w2)) := by
    intro x s w2 K hx1 hx2 u hK
    refine Hs.ldI u.2.2 1 rfl rfl ?_
    rw [br_iff, br_iff]
    exact ⟨fun _ => hK _, fun _ => ⟨fun _ => hK _, fun _ => hK _⟩⟩
  have out : ∀ (x : Nat) (s : Int) (w2 : World), a' ≤ x → x < b → UN W (Cn b4 s :: L) e a n c d w2 → ∀ g, (fun (v : Value) w' => ∃ (x : Nat) (g : Int), v = .tuple #[.int .i64 (x : Int), .int .i64 g] ∧ a' ≤ x ∧ x < b ∧ UN W L e a n c d w') (.tuple #[.int .i64 (x : Int), .int .i64 g]) w2 := fun x s w2 h1 h2 u g => ⟨x, g, rfl, h1, h2, u.1, u.2.1, (u.2.2.erase 1 : Hs W (_ :: L) w2)⟩
  rw [br_dec]
  refine ⟨fun _ => ?_, fun hx => by exfalso; omega⟩
  rw [br_dec]
  refine ⟨fun _ => ?_, fun _ => ?_⟩
  · refine cl (c97 u1 (by omega) (by omega)) fun v w2 ⟨x1, s1, hv, hx1, hx1', u2⟩ => ⟨(x1 : Int), by rw [hv], ?_⟩
    refine cl (c97 u2 (by omega) (by omega)) fun v w3 ⟨x2, s2, hv, hx2, hx2', u3⟩ => ⟨(x2 : Int), by rw [hv], ?_⟩
    refine cl (c97 u3 (by omega) (by omega)) fun v w4 ⟨x3, s3, hv, hx3, hx3', u4⟩ => ⟨(x3 : Int), by rw [hv], ?_⟩
    refine cl (c98 u4 (by omega) (by omega) (by omega)) fun v w5 ⟨x4, s4, hv, hx4, u5⟩ => ⟨(x4 : Int), by rw [hv], ?_⟩
    exact fin x4 s4 w5 (fun v w' => ∃ (x : Nat) (g : Int), v = .tuple #[.int .i64 (x : Int), .int .i64 g] ∧ a' ≤ x ∧ x < b ∧ UN W L e a n c d w') (by omega) (by omega) u5 (out x4 s4 w5 (by omega) (by omega) u5)
  · refine cl (c98 u1 (by omega) (by omega) (by omega)) fun v w5 ⟨x4, s4, hv, hx4, u5⟩ => ⟨(x4 : Int), by rw [hv], ?_⟩
    exact fin x4 s4 w5 (fun v w' => ∃ (x : Nat) (g : Int), v = .tuple #[.int .i64 (x : Int), .int .i64 g] ∧ a' ≤ x ∧ x < b ∧ UN W L e a n c d w') (by omega) (by omega) u5 (out x4 s4 w5 (by omega) (by omega) u5)
end
end Go.Proofs.Ytaflmpbeonoilaa
