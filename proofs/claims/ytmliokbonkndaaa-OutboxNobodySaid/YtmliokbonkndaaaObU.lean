/-
  A box that nobody made: every method refuses.
-/
import Derived.Test.YtmliokbonkndaaaObO
namespace Go.Proofs.Ytmliokbonkndaaa
open Go Go.Sh
def zbox : Obj := .cells (R78.mk 0 0 none 0 0).c 79 (0, 0)
def UnB (w : World) (p : Option Addr) : Prop := p = none ∨ ∃ b, p = some ⟨b, 0, none⟩ ∧ w.heap[b]? = some zbox
section
variable {W w : World} {p : Option Addr}
theorem UnB.same {w' : World} (h : UnB w p) (s : Same w w') : UnB w' p := by
  rcases h with h | ⟨b, h1, h2⟩
  · exact .inl h
  · exact .inr ⟨b, h1, s.blk h2 fun x => x⟩
theorem n31 (h : UnB w p) : Calls Try.prog 31 #[.pointer p] w (rt (KR (.bool false) w)) := by
  refine F31_ok ?_
  unfold F31
  simp only [rdP_mk]
  rcases h with rfl | ⟨b, rfl, h⟩
  · exact ⟨rfl, rfl⟩
  · simp only [Option.isNone_some, Bool.not_false, br_true, nn_some, add_mk]
    exact ldI_at h rfl ⟨rfl, rfl⟩
theorem n29 (h : UnB w p) (a b : Int) : Calls Try.prog 29 #[.pointer p, .int .i64 a, .int .i64 b] w (rt (KR (.int .i64 4) w)) := by
  refine F29_ok ?_
  unfold F29
  simp only [rdP_mk, rdI_mk]
  refine clr (n31 h) ⟨_, rfl, ?_⟩
  exact ⟨rfl, rfl⟩
theorem n10 (h : UnB w p) (a b : Int) (s : R40) : Calls Try.prog 10 #[.pointer p, .int .i64 a, s.v, .int .i64 b] w (rt fun v w' => v = .tuple #[.int .u32 0, .int .i64 4] ∧ Same w w') := by
  refine F10_ok ?_
  unfold F10
  simp only [rdP_mk, rdI_mk]
  refine exR40_of s ⟨rfl, ?_⟩
  refine (Hs.start w).alc fun b5 w1 h1 => ?_
  refine clr (n29 (h.same h1.old) a b) ⟨_, rfl, ?_⟩
  exact ⟨rfl, h1.old⟩
theorem n24 (h : UnB w p) (a b : Int) : Calls Try.prog 24 #[.pointer p, .int .i64 a, .int .i64 b] w (rt fun v w' => v = .tuple #[R57.z.v, .bool false, .int .i64 4] ∧ Same w w') := by
  refine F24_ok ?_
  unfold F24
  simp only [rdP_mk, rdI_mk]
  refine (Hs.start w).alc fun b5 w1 h1 => ?_
  refine clr (n29 (h.same h1.old) a b) ⟨_, rfl, ?_⟩
  rw [show ((4 : Int) != 0) = true from rfl, br_true]
  refine h1.stcL 0 rfl rfl fun w2 h2 => ?_
  exact ldR57_of (s := R57.z) (h2.atL 0 rfl) ⟨rfl, h2.old⟩
theorem n13 (h : UnB w p) (s : R30) (a : Int) : Calls Try.prog 13 #[.pointer p, s.v, .int .i64 a] w (rt fun v w' => v = .tuple #[R47.z.v, .int .i64 4] ∧ Same w w') := by
  refine F13_ok ?_
  unfold F13
  simp only [rdP_mk, rdI_mk]
  refine exR30_of s ⟨rfl, ?_⟩
  refine (Hs.start w).alc fun b4 w1 h1 => h1.alc fun b6 w2 h2 => ?_
  refine clr (n31 (h.same h2.old)) ⟨_, rfl, ?_⟩
  rw [Bool.not_false, br_true]
  refine h2.stcL 0 rfl rfl fun w3 h3 => ?_
  exact ldR47_of (s := R47.z) (h3.atL 0 rfl) ⟨rfl, h3.old⟩
theorem n25 (h : UnB w p) (a : Int) : Calls Try.prog 25 #[.pointer p, .int .i64 a] w (rt (KR (.tuple #[.int .i64 0, .int .i64 4]) w)) := by
  refine F25_ok ?_
  unfold F25
  simp only [rdP_mk, rdI_mk]
  refine clr (n29 h a 0) ⟨_, rfl, ?_⟩
  exact ⟨rfl, rfl⟩
theorem n39 (h : UnB w p) (fv : Value) : Calls Try.prog 39 #[.pointer p, fv] w (rt (KR (.pointer none) w)) := by
  refine F39_ok ?_
  unfold F39
  simp only [rdP_mk]
  refine clr (n31 h) ⟨_, rfl, ?_⟩
  exact ⟨rfl, rfl⟩
theorem n53 (h : UnB w p) (fv : Value) : Calls Try.prog 53 #[.pointer p, fv] w (rt (KR (.int .i64 0) w)) := by
  refine F53_ok ?_
  unfold F53
  simp only [rdP_mk]
  refine clr (n31 h) ⟨_, rfl, ?_⟩
  exact ⟨rfl, rfl⟩
theorem n27 (h : UnB w p) (a : Int) : Calls Try.prog 27 #[.pointer p, .int .i64 a] w (rt fun v w' => v = .int .i64 0 ∧ Same w w') := by
  refine F27_ok ?_
  unfold F27
  simp only [rdP_mk, rdI_mk]
  refine cl (c40 a w) ?_
  rintro fv w1 ⟨_, s1⟩
  refine ⟨fv, rfl, ?_⟩
  refine clr (n53 (h.same s1) fv) ⟨_, rfl, rfl, s1⟩
theorem n28 (h : UnB w p) : Calls Try.prog 28 #[.pointer p] w (rt (KR (.int .i64 0) w)) := by
  refine F28_ok ?_
  unfold F28
  simp only [rdP_mk]
  exact clr (n53 h _) ⟨_, rfl, rfl, rfl⟩
theorem n18 (h : UnB w p) : Calls Try.prog 18 #[.pointer p] w (rt (KR (.int .i64 0) w)) := by
  refine F18_ok ?_
  unfold F18
  simp only [rdP_mk]
  exact clr (n31 h) ⟨_, rfl, rfl, rfl⟩
theorem n15 (h : UnB w p) : Calls Try.prog 15 #[.pointer p] w (rt (KR (.slice none 0 0) w)) := by
  refine F15_ok ?_
  unfold F15
  simp only [rdP_mk]
  exact clr (n31 h) ⟨_, rfl, rfl, rfl⟩
theorem n12 (h : UnB w p) : Calls Try.prog 12 #[.pointer p] w (rt (KR (.int .u32 0) w)) := by
  refine F12_ok ?_
  unfold F12
  simp only [rdP_mk]
  exact clr (n31 h) ⟨_, rfl, rfl, rfl⟩
theorem n19 (h : UnB w p) : Calls Try.prog 19 #[.pointer p] w (rt (KR (.int .u32 0) w)) := by
  refine F19_ok ?_
  unfold F19
  simp only [rdP_mk]
  exact clr (n31 h) ⟨_, rfl, rfl, rfl⟩
theorem n16 (h : UnB w p) (a : Int) : Calls Try.prog 16 #[.pointer p, .int .i64 a] w (rt fun v w' => v = .tuple #[R57.z.v, .bool false] ∧ Same w w') := by
  refine F16_ok ?_
  unfold F16
  simp only [rdP_mk, rdI_mk]
  refine (Hs.start w).alc fun b3 w1 h1 => ?_
  refine cl (c40 a w1) ?_
  rintro fv w2 ⟨_, s2⟩
  refine ⟨fv, rfl, ?_⟩
  have h2 := h1.same s2
  refine clr (n39 (h.same h2.old) fv) ⟨_, rfl, ?_⟩
  refine cl (c38_none w2) ?_
  rintro _ w3 ⟨rfl, s3⟩
  have h3 := h2.same s3
  refine exR57_of R57.z ⟨_, rfl, ?_⟩
  refine h3.stcL 0 rfl rfl fun w4 h4 => ?_
  exact ldR57_of (s := R57.z) (h4.atL 0 rfl) ⟨rfl, h4.old⟩
theorem n26 (h : UnB w p) : Calls Try.prog 26 #[.pointer p] w (rt fun v w' => v = .tuple #[.int .i64 0, R57.z.v, .bool false] ∧ Same w w') := by
  refine F26_ok ?_
  unfold F26
  simp only [rdP_mk]
  refine (Hs.start w).alc fun b3 w1 h1 => ?_
  refine clr (n39 (h.same h1.old) _) ⟨_, rfl, ?_⟩
  refine cl (c38_none w1) ?_
  rintro _ w3 ⟨rfl, s3⟩
  have h3 := h1.same s3
  refine exR57_of R57.z ⟨_, rfl, ?_⟩
  refine h3.alc fun b11 w4 h4 => h4.stcL 0 rfl rfl fun w5 h5 => h5.drw fun w6 h6 => ?_
  refine ⟨w6, Pres.of_Same (Fr.refl _), ?_⟩
  refine ldR57_of (s := R57.z) (h6.atL 0 rfl) ?_
  refine clr (n53 (h.same h6.old) _) ⟨_, rfl, Pres.of_Same (Fr.refl _), ?_⟩
  refine h6.stcL 1 rfl rfl fun w7 h7 => ?_
  exact ldR57_of (s := R57.z) (h7.atL 1 rfl) ⟨rfl, h7.old⟩
/-- a record of its own, filled -/
theorem keep57 (w : World) (s : R57) {K : World → Prop} (hk : ∀ w', Same w w' → K w') : Sh.alc (.cells (R57.mk 0 0 0 0 0 false 0 0 0 0 false none 0 0 false false).c 58) w fun b w1 => Sh.stcL ⟨b, 0, none⟩ 0 s.l w1 K :=
  (Hs.start w).alc fun b w1 h1 => h1.stcL 0 rfl rfl fun w2 h2 => hk w2 h2.old
theorem keep47 (w : World) (s : R47) {K : World → Prop} (hk : ∀ w', Same w w' → K w') : Sh.alc (.cells (R47.mk none 0 0 0 0).c 48) w fun b w1 => Sh.stcL ⟨b, 0, none⟩ 0 s.l w1 K :=
  (Hs.start w).alc fun b w1 h1 => h1.stcL 0 rfl rfl fun w2 h2 => hk w2 h2.old
theorem c8_loop {path n : Int} {b s : Nat} {K0 : World → Prop} {Kr : Value → World → Prop} (hs : W.heap[s]? = some (.cells #[.pointer none, .pointer (some ⟨b, 0, none⟩)] 32 (0, 0))) (hz : W.heap[b]? = some zbox) : ∀ (i j : Nat) (w : World) (k : Nat), j + i = 2 →
    Same W w → i < k → (∀ w', Same W w' → K0 w') → F8_1 K0 Kr k (.int .i64 path) (.int .i64 n) (.slice (some ⟨s, 0, none⟩) 2 2) (.int .i64 2) (.int .i64 (j : Int)) w := by
  intro i
  induction i with
  | zero =>
    intro j w k hj h hk hK
    obtain ⟨k, rfl⟩ : ∃ j, k = j + 1 := ⟨k - 1, by omega⟩
    show F8_1B _ _ _ _ _ _ _ _ _
    unfold F8_1B
    simp only [rdI_mk, rdC_mk, br_dec]
    exact ⟨fun h => by exfalso; omega, fun _ => hK w h⟩
  | succ i ih =>
    intro j w k hj h hk hK
    obtain ⟨k, rfl⟩ : ∃ j, k = j + 1 := ⟨k - 1, by omega⟩
    show F8_1B _ _ _ _ _ _ _ _ _
    unfold F8_1B
    simp only [rdI_mk, rdC_mk, br_dec]
    refine ⟨fun _ => ?_, fun h => by exfalso; omega⟩
    refine ixS_of (by omega) (by omega) ?_
    obtain ⟨p, hp, hu⟩ : ∃ p : Option Addr, (#[.pointer none, .pointer (some ⟨b, 0, none⟩)] : Array Value)[0 + (j : Int).toNat * 1]? = some (.pointer p) ∧ UnB W p := by
      rcases Nat.lt_or_ge j 1 with h1 | h1
      · have : j = 0 := by omega
        subst this
        exact ⟨none, rfl, .inl rfl⟩
      · have : j = 1 := by omega
        subst this
        exact ⟨_, rfl, .inr ⟨b, rfl, hz⟩⟩
    rw [add_mk]
    have tr : ∀ {w1 w2 : World}, Same W w1 → Same w1 w2 → Same W w2 := fun a b => a.trans b fun _ _ x => x
    refine ldP_at (h.blk hs fun x => x) hp ?_
    refine cl (c11 _ w) ?_
    rintro _ w1 ⟨da, dc, rfl, _, s1⟩
    refine exR40_of ((En.s ⟨#[97]⟩).pt da dc) ⟨rfl, ?_⟩
    have h := tr h s1
    refine cl (n10 (hu.same h) _ _ _) ?_
    rintro _ w2 ⟨rfl, s1⟩
    refine ⟨_, _, rfl, ?_⟩
    have h := tr h s1
    refine cl (n24 (hu.same h) _ _) ?_
    rintro _ w3 ⟨rfl, s1⟩
    refine exR57_of R57.z ⟨_, _, rfl, ?_⟩
    have h := tr h s1
    refine keep57 w3 _ fun w4 s1 => ?_
    have h := tr h s1
    refine cl (n13 (hu.same h) ⟨3, 0, 0, 0, 0, 0, 0, 0, 0, 0, none, 0, 0, none, 0, 0, none, 0, 0, none, 0, 0, none, 0, 0⟩ _) ?_
    rintro _ w5 ⟨rfl, s1⟩
    refine exR47_of R47.z ⟨_, rfl, ?_⟩
    have h := tr h s1
    refine keep47 w5 _ fun w6 s1 => ?_
    have h := tr h s1
    refine clr (n25 (hu.same h) _) ⟨_, _, rfl, ?_⟩
    refine cl (n26 (hu.same h)) ?_
    rintro _ w7 ⟨rfl, s1⟩
    have h := tr h s1
    refine ⟨_, exR57_of R57.z ⟨_, rfl, ?_⟩⟩
    refine keep57 w7 _ fun w8 s1 => ?_
    have h := tr h s1
    refine cl (n16 (hu.same h) _) ?_
    rintro _ w9 ⟨rfl, s1⟩
    have h := tr h s1
    refine exR57_of R57.z ⟨_, rfl, ?_⟩
    refine keep57 w9 _ fun w10 s1 => ?_
    have h := tr h s1
    simp only [show ((4 : Int) != 4) = false from rfl, br_false]
    refine cl (n27 (hu.same h) _) ?_
    rintro _ w11 ⟨rfl, s1⟩
    have h := tr h s1
    have hu := hu.same h
    refine ⟨_, rfl, clr (n28 hu) ⟨_, rfl, clr (n18 hu) ⟨_, rfl, clr (n15 hu) ⟨_, _, _, rfl, ?_⟩⟩⟩⟩
    rw [show (IntKind.wrap .i64 (IntKind.wrap .i64 (IntKind.wrap .i64 (IntKind.wrap .i64 ((0 : Int) + 0) + 0) + 0) + ((0 : Nat) : Int)) != 0) = false from by decide, br_false]
    refine clr (n12 hu) ⟨_, rfl, ?_⟩
    rw [show ((0 : Int) != 0) = false from rfl, br_false]
    refine clr (n19 hu) ⟨_, rfl, ?_⟩
    rw [show ((0 : Int) != 0) = false from rfl, br_false]
    have e1 : IntKind.wrap .i64 ((j : Int) + 1) = ((j + 1 : Nat) : Int) := by rw [wrap_i64 (by omega) (by omega)]; omega
    rw [e1]
    exact ih (j + 1) w11 k (by omega) h (by omega) hK
theorem c8 (path n : Int) (w : World) : Calls Try.prog 8 #[.int .i64 path, .int .i64 n] w (rt fun v w' => v = .bool true ∧ Same w w') := by
  refine F8_ok ?_
  unfold F8
  simp only [rdI_mk]
  refine (Hs.start w).alc fun b3 w1 h1 => h1.alc fun b5 w2 h2 => ?_
  refine ⟨3, c8_loop (h2.at 0 rfl) (h2.at 1 rfl) 2 0 w2 _ rfl (Fr.refl w2) (by omega) fun w3 s3 => ?_⟩
  intro _g
  refine cl (c14 w3) ?_
  rintro _ w4 ⟨rfl, s4⟩
  exact ⟨_, rfl, rfl, (h2.old.trans s3 fun _ _ x => x).trans s4 fun _ _ x => x⟩
end
end Go.Proofs.Ytmliokbonkndaaa
