/- Own text: part of the shallow reading of the code and of the contracts that are proved over it. -/
import Derived.Test.YtaiofglmcoojbaaScB
namespace Go.Proofs.Ytaiofglmcoojbaa
open Go Go.Sh
/-! sorting -/
def CmpOk (W : World) (M : List HP) (fv : Value) (f : Nat → Nat → Bool) (n : Nat) : Prop :=
  ∀ (A : HP) (w : World) (i k : Nat) (K : Value → World → Prop), Hs W (A :: M) w → i < n → k < n → i ≠ k → (∀ (m : Int) w', (m < 0 ↔ f i k = true) → Same w w' → K (.int .i64 m) w') → callV Try.prog fv #[.int .i64 (i : Int), .int .i64 (k : Int)] w (.one (.one (.int .i64))) K
section
variable {W w : World} {M : List HP} {f : Nat → Nat → Bool} {n : Nat} {fv : Value}
set_option maxRecDepth 100000 in
theorem c44 (n : Nat) (hn : n ≤ 8) (w : World) : Calls Try.prog 44 #[.int .u64 (n : Int)] w (rt fun v w' => w' = w ∧ ∃ m, v = .int .i64 m) := by
  refine F44_ok ?_
  unfold F44
  simp only [rdI_mk, br_dec]
  refine ⟨fun h => by exfalso; omega, fun _ => ?_⟩
  unfold F44_3
  simp only [rdI_mk, br_dec]
  refine ⟨fun h => by exfalso; omega, fun _ => ?_⟩
  unfold F44_2
  simp only [rdI_mk, br_dec]
  refine ⟨fun h => by exfalso; omega, fun _ => ?_⟩
  unfold F44_1
  refine ⟨_, rfl, _, rfl, ?_⟩
  have ew : IntKind.wrap .u8 (n : Int) = (n : Int) := wrap_u8 (by omega) (by omega)
  rw [ew]
  have : n = 0 ∨ n = 1 ∨ n = 2 ∨ n = 3 ∨ n = 4 ∨ n = 5 ∨ n = 6 ∨ n = 7 ∨ n = 8 := by omega
  rcases this with rfl | rfl | rfl | rfl | rfl | rfl | rfl | rfl | rfl <;> exact ⟨_, ⟨by decide, rfl⟩, fun _ => ⟨_, rfl, fun _ _ => ⟨rfl, _, rfl⟩⟩⟩
theorem c34 (n : Nat) (hn : n ≤ 8) (w : World) : Calls Try.prog 34 #[.int .u64 (n : Int)] w (rt fun v w' => w' = w ∧ ∃ m, v = .int .i64 m) := by
  refine F34_ok ?_
  unfold F34
  simp only [rdI_mk]
  refine cl (c44 n hn w) ?_
  rintro _ w' ⟨rfl, m, rfl⟩
  exact ⟨_, rfl, rfl, _, rfl⟩
theorem c35_in {ad : Addr} {l c : Nat} {i n2 : Int} {K2 : Value → Value → Value → Value → Value → World → Prop} (hc : CmpOk W M fv f n) (hl8 : l ≤ 8) : ∀ (r : List Nat) (x : Nat) (B : List Nat) (w : World) (k : Nat), (r.reverse ++ x :: B).length = l → (∀ y ∈ r, y < n ∧ y ≠ x) → x < n → Hs W (slP 3 1 (some ad) l c (inV (r.reverse ++ x :: B)) :: M) w → r.length < k →
    (∀ w', Hs W (slP 3 1 (some ad) l c (inV ((insR f x r).reverse ++ B)) :: M) w' → K2 (.slice (some ad) l c) (.int .i64 0) (.int .i64 n2) fv (.int .i64 i) w') →
    F35_2 K2 k (.slice (some ad) l c) (.int .i64 0) (.int .i64 n2) fv (.int .i64 i) (.int .i64 (r.length : Int)) w := by
  intro r
  induction r with
  | nil =>
    intro x B w k hl hr hx hw hk hK
    obtain ⟨k, rfl⟩ : ∃ j, k = j + 1 := ⟨k - 1, by omega⟩
    show F35_2B _ _ _ _ _ _ _ _ _
    unfold F35_2B drw
    simp only [rdC_mk, rdI_mk, br_dec]
    exact ⟨fun h => by exfalso; simp at h, fun _ => hK _ hw.drew⟩
  | cons a r ih =>
    intro x B w k hl hr hx hw hk hK
    obtain ⟨k, rfl⟩ : ∃ j, k = j + 1 := ⟨k - 1, by omega⟩
    show F35_2B _ _ _ _ _ _ _ _ _
    unfold F35_2B drw
    simp only [rdC_mk, rdI_mk, br_dec]
    have hw := hw.drew
    generalize w.drew = w1 at hw ⊢
    have hll : (a :: r).length = r.length + 1 := rfl
    have hlen : r.length + 1 < l := by simp at hl; omega
    refine ⟨fun _ => ?_, fun h => by exfalso; simp at h <;> omega⟩
    have hrd := hw.rd 0 rfl
    have gx : (inV ((a :: r).reverse ++ x :: B))[r.length + 1]? = some (.int .i64 (x : Int)) := by simp [inV]
    have ga : (inV ((a :: r).reverse ++ x :: B))[r.length]? = some (.int .i64 (a : Int)) := by simp [inV]
    have ew : IntKind.wrap .i64 (((a :: r).length : Int) - 1) = ((r.length : Nat) : Int) := by rw [hll, wrap_i64 (by omega) (by omega)]; omega
    rw [ew]
    have at1 : ∀ {w' : World} {K : Addr → Prop}, K (ad.add (r.length + 1)) → ixS 1 (some ad) l (((a :: r).length : Nat) : Int) K := fun hk => ixS_of (by omega) (by rw [hll]; omega) (by rw [Int.toNat_natCast, Nat.mul_one]; exact hk)
    have at0 : ∀ {w' : World} {K : Addr → Prop}, K (ad.add r.length) → ixS 1 (some ad) l ((r.length : Nat) : Int) K := fun hk => ixS_of (by omega) (by omega) (by rw [Int.toNat_natCast, Nat.mul_one]; exact hk)
    refine at1 (w' := w1) (ldI_c (hrd.at gx) (at0 (w' := w1) (ldI_c (hrd.at ga) ?_)))
    have ha := hr a (by simp)
    refine hc _ w1 x a _ hw hx ha.1 (Ne.symm ha.2) fun m w2 hm s2 => ⟨_, rfl, ?_⟩
    have h2 := hw.same s2
    refine ⟨fun hlt => ?_, fun hge => ?_⟩
    · have hfa : f x a = true := hm.1 hlt
      unfold F35_1 drw
      simp only [rdC_mk, rdI_mk]
      have h3 := h2.drew
      generalize w2.drew = w3 at h3 ⊢
      have hrd3 := h3.rd 0 rfl
      rw [ew]
      refine at0 (w' := w3) (ldI_c (hrd3.at ga) (at1 (w' := w3) (ldI_c (hrd3.at gx) (at1 (w' := w3) ?_))))
      refine h3.put 0 rfl (by simp [inV] <;> omega) fun w4 h4 => at0 (w' := w4) ?_
      refine h4.put 0 rfl (by simp [inV] <;> omega) fun w5 h5 _g => ?_
      have e1 : ((inV ((a :: r).reverse ++ x :: B)).set (r.length + 1) (.int .i64 (a : Int))).set r.length (.int .i64 (x : Int)) = inV (r.reverse ++ x :: (a :: B)) := by
        have key : ∀ (A : List Value) (u v p q : Value) (C : List Value), ((A ++ u :: v :: C).set (A.length + 1) p).set A.length q = A ++ q :: p :: C := by
          intro A u v p q C
          rw [List.set_append_right _ _ (by omega), show A.length + 1 - A.length = 1 by omega, List.set_append_right _ _ (by omega), Nat.sub_self]
          rfl
        have := key (inV r.reverse) (.int .i64 (a : Int)) (.int .i64 (x : Int)) (.int .i64 (a : Int)) (.int .i64 (x : Int)) (inV B)
        rw [inV_length, List.length_reverse] at this
        simp only [inV, List.map_append, List.map_cons, List.map_nil, List.reverse_cons, List.append_assoc, List.cons_append, List.nil_append] at this ⊢
        exact this
      have h6 : Hs W (slP 3 1 (some ad) l c (inV (r.reverse ++ x :: (a :: B))) :: M) w5 := by
        rw [← e1]; exact h5
      refine ih x (a :: B) w5 k (by rw [← hl]; simp) (fun y hy => hr y (List.mem_cons_of_mem _ hy)) hx h6 (by simp at hk; omega) fun w' h' => hK w' ?_
      unfold insR
      rw [if_pos hfa, List.reverse_cons, List.append_assoc]
      exact h'
    · have hfa : ¬ f x a = true := fun h => hge (hm.2 h)
      refine hK w2 ?_
      unfold insR
      rw [if_neg hfa, List.reverse_cons, List.append_assoc]
      exact h2
theorem c35 {a : Option Addr} {xs : List Nat} {c : Nat} (hc : CmpOk W M fv f n) (hn8 : xs.length ≤ 8) (hnd : xs.Nodup) (hx : ∀ x ∈ xs, x < n) (h : Hs W (slP 3 1 a xs.length c (inV xs) :: M) w) :
    Calls Try.prog 35 #[.slice a xs.length c, .int .i64 0, .int .i64 (xs.length : Int), fv] w (rt fun v w' => v = .tuple #[] ∧ Hs W (slP 3 1 a xs.length c (inV (isort f xs)) :: M) w') := by
  refine F35_ok ?_
  unfold F35
  simp only [rdC_mk, rdI_mk]
  have loop : ∀ (ys : List Nat) (r : List Nat) (w : World) (k : Nat) (K0 : World → Prop), r.reverse ++ ys = r.reverse ++ ys → r.length + ys.length = xs.length → (∀ y ∈ r, y < n) → (∀ y ∈ ys, y < n ∧ y ∉ r) → ys.Nodup → Hs W (slP 3 1 a xs.length c (inV (r.reverse ++ ys)) :: M) w → ys.length < k → (0 < r.length ∨ ys = []) →
      (∀ w', Hs W (slP 3 1 a xs.length c (inV (ys.foldl (fun r x => insR f x r) r).reverse) :: M) w' → K0 w') →
      F35_3 K0 k (.slice a xs.length c) (.int .i64 0) (.int .i64 (xs.length : Int)) fv (.int .i64 (r.length : Int)) w := by
    intro ys
    induction ys with
    | nil =>
      intro r w k K0 _ hl hr hy hn hw hk _ hK
      obtain ⟨k, rfl⟩ : ∃ j, k = j + 1 := ⟨k - 1, by omega⟩
      show F35_3B _ _ _ _ _ _ _ _
      unfold F35_3B
      simp only [rdC_mk, rdI_mk, br_dec]
      refine ⟨fun h => by exfalso; simp at hl; omega, fun _ => hK w ?_⟩
      simpa using hw
    | cons x ys ih =>
      intro r w k K0 _ hl hr hy hn hw hk _ hK
      obtain ⟨k, rfl⟩ : ∃ j, k = j + 1 := ⟨k - 1, by omega⟩
      show F35_3B _ _ _ _ _ _ _ _
      unfold F35_3B
      simp only [rdC_mk, rdI_mk, br_dec]
      simp only [List.length_cons] at hl hk
      refine ⟨fun _ => ?_, fun h => by exfalso; omega⟩
      obtain ⟨ad, rfl⟩ := (hw.rd 0 rfl).some (by simp [inV] <;> omega)
      rw [List.nodup_cons] at hn
      have hxr := hy x (by simp)
      refine ⟨r.length + 1, c35_in hc hn8 r x ys w _ (by simp; omega) (fun y hy' => ⟨hr y hy', fun e => hxr.2 (e ▸ hy')⟩) hxr.1 hw (by omega) fun w' h' _g => ?_⟩
      have ew : IntKind.wrap .i64 ((r.length : Int) + 1) = (((insR f x r).length : Nat) : Int) := by rw [len_insR, wrap_i64 (by omega) (by omega)]; omega
      simp only [rdC_mk, rdI_mk, ew]
      refine ih (insR f x r) w' k K0 rfl (by rw [len_insR]; omega) (fun y hy' => ?_) (fun y hy' => ⟨(hy y (List.mem_cons_of_mem _ hy')).1, fun hm => ?_⟩) hn.2 h' (by omega) (.inl (by rw [len_insR]; omega)) hK
      · rcases mem_insR.1 hy' with rfl | hy'
        · exact hxr.1
        · exact hr y hy'
      · rcases mem_insR.1 hm with rfl | hm
        · exact hn.1 hy'
        · exact (hy y (List.mem_cons_of_mem _ hy')).2 hm
  cases xs with
  | nil =>
    have := loop [] [] w 1 (fun w' => ∀ _g : Tm, Value.tuple #[] = .tuple #[] ∧ Hs W (slP 3 1 a 0 c (inV (isort f [])) :: M) w') rfl rfl (by simp) (by simp) (by simp) h (by simp) (.inr rfl) (fun w' h' _g => ⟨rfl, h'⟩)
    refine ⟨1, ?_⟩
    show F35_3B _ _ _ _ _ _ _ _
    unfold F35_3B
    simp only [rdC_mk, rdI_mk, br_dec]
    refine ⟨fun h => by exfalso; simp at h; revert h; decide, fun _ _g => ⟨trivial, h⟩⟩
  | cons x ys =>
    rw [List.nodup_cons] at hnd
    have e1 : IntKind.wrap .i64 ((0 : Int) + 1) = (([x].length : Nat) : Int) := by rw [wrap_i64 (by omega) (by omega)]; rfl
    rw [e1]
    refine ⟨ys.length + 1, loop ys [x] w _ _ rfl (by simp; omega) (fun y hy => by simp at hy; subst hy; exact hx _ (by simp)) (fun y hy => ⟨hx y (by simp [hy]), fun hm => by simp at hm; subst hm; exact hnd.1 hy⟩) hnd.2 (by simpa using h) (by omega) (.inl (by simp)) fun w' h' _g => ⟨trivial, ?_⟩⟩
    exact h'
theorem c26 {a : Option Addr} {xs : List Nat} {c : Nat} (hc : CmpOk W M fv f n) (hn8 : xs.length ≤ 8) (hnd : xs.Nodup) (hx : ∀ x ∈ xs, x < n) (h : Hs W (slP 3 1 a xs.length c (inV xs) :: M) w) :
    Calls Try.prog 26 #[.slice a xs.length c, fv] w (rt fun v w' => v = .tuple #[] ∧ Hs W (slP 3 1 a xs.length c (inV (isort f xs)) :: M) w') := by
  refine F26_ok ?_
  unfold F26
  simp only [rdC_mk]
  rw [wrap_u64_nat _ (by omega)]
  refine cl (c34 xs.length hn8 w) ?_
  rintro _ w1 ⟨e, m, rfl⟩
  rw [e]
  refine ⟨_, rfl, ?_⟩
  have c33 : Calls Try.prog 33 #[.slice a xs.length c, .int .i64 0, .int .i64 (xs.length : Int), .int .i64 m, fv] w (rt fun v w' => v = .tuple #[] ∧ Hs W (slP 3 1 a xs.length c (inV (isort f xs)) :: M) w') := by
    refine F33_ok ?_
    unfold F33
    simp only [rdC_mk, rdI_mk]
    refine ⟨1, ?_⟩
    show F33_5B _ _ _ _ _ _ _ _ _ _
    unfold F33_5B
    simp only [rdC_mk, rdI_mk, rdB_mk, br_dec]
    have ew : IntKind.wrap .i64 ((xs.length : Int) - 0) = (xs.length : Int) := by rw [Int.sub_zero]; exact wrap_i64_nat _ (by omega)
    rw [ew]
    refine ⟨fun _ => ?_, fun h => by exfalso; omega⟩
    refine cl (c35 hc hn8 hnd hx h) ?_
    rintro _ w2 ⟨rfl, h2⟩
    exact ⟨rfl, fun _g => ⟨trivial, h2⟩⟩
  refine cl c33 ?_
  rintro _ w2 ⟨rfl, h2⟩
  exact ⟨rfl, trivial, h2⟩
end
end Go.Proofs.Ytaiofglmcoojbaa
