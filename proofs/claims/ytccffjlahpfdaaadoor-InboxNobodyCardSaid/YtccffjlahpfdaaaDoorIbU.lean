/-
  A box that nobody made: every method refuses.
-/
import Derived.Test.YtccffjlahpfdaaaDoorIbN
namespace Go.Proofs.YtccffjlahpfdaaaDoor
open Go Go.Sh Go.Sp
def zbox : Obj := .cells #[.pointer none, .map none, .slice none 0 0, .int .i64 0, .bool false, .int .i64 0, .bool false, .int .i64 0] 80 (0, 0)
def UnB (w : World) (p : Option Addr) : Prop := p = none ∨ ∃ b, p = some ⟨b, 0, none⟩ ∧ w.heap[b]? = some zbox
section
variable {W w : World} {p : Option Addr}
theorem UnB.same {w' : World} (h : UnB w p) (s : Same w w') : UnB w' p := by
  rcases h with h | ⟨b, h1, h2⟩
  · exact .inl h
  · exact .inr ⟨b, h1, s.blk h2 fun x => x⟩
theorem n34 (h : UnB w p) : Calls Tryd.prog 34 #[.pointer p] w (rt (KR (.bool false) w)) := by
  refine F34_ok ?_
  unfold F34
  simp only [rdP_mk]
  rcases h with rfl | ⟨b, rfl, h⟩
  · exact ⟨rfl, rfl⟩
  · simp only [Option.isNone_some, Bool.not_false, br_true, nn_some, add_mk]
    exact ldP_at h rfl ⟨rfl, rfl⟩
theorem n10 (h : UnB w p) (t : Int) : Calls Tryd.prog 10 #[.pointer p, .int .u32 t] w (rt (KR (.tuple #[.bool false, .int .i64 4]) w)) := by
  refine F10_ok ?_
  unfold F10
  simp only [rdP_mk, rdI_mk]
  refine clr (n34 h) ⟨_, rfl, ?_⟩
  exact ⟨rfl, rfl⟩
theorem n21 (h : UnB w p) (t : Int) : Calls Tryd.prog 21 #[.pointer p, .int .i64 t] w (rt (KR (.int .i64 4) w)) := by
  refine F21_ok ?_
  unfold F21
  simp only [rdP_mk, rdI_mk]
  refine clr (n34 h) ⟨_, rfl, ?_⟩
  exact ⟨rfl, rfl⟩
theorem n22 (h : UnB w p) : Calls Tryd.prog 22 #[.pointer p] w (rt (KR (.tuple #[.int .i64 0, .bool false]) w)) := by
  refine F22_ok ?_
  unfold F22
  simp only [rdP_mk]
  refine clr (n34 h) ⟨_, rfl, ?_⟩
  exact ⟨rfl, rfl⟩
theorem n31 (h : UnB w p) (t : Int) : Calls Tryd.prog 31 #[.pointer p, .int .u32 t] w (rt (KR (.bool false) w)) := by
  refine F31_ok ?_
  unfold F31
  simp only [rdP_mk, rdI_mk]
  refine clr (n34 h) ⟨_, rfl, ?_⟩
  exact ⟨rfl, rfl⟩
theorem n20 (h : UnB w p) (t : Int) : Calls Tryd.prog 20 #[.pointer p, .int .u32 t] w (rt (KR (.bool false) w)) := by
  refine F20_ok ?_
  unfold F20
  simp only [rdP_mk, rdI_mk]
  refine clr (n34 h) ⟨_, rfl, ?_⟩
  exact ⟨rfl, rfl⟩
theorem n24 (h : UnB w p) : Calls Tryd.prog 24 #[.pointer p] w (rt (KR (.int .u32 0) w)) := by
  refine F24_ok ?_
  unfold F24
  simp only [rdP_mk]
  refine clr (n34 h) ⟨_, rfl, ?_⟩
  exact ⟨rfl, rfl⟩
theorem n12 (h : UnB w p) {a : Option Addr} {l c : Nat} : Calls Tryd.prog 12 #[.pointer p, .slice a l c] w (rt (KR (.int .i64 0) w)) := by
  refine F12_ok ?_
  unfold F12
  simp only [rdP_mk, rdC_mk]
  refine clr (n34 h) ⟨_, rfl, ?_⟩
  exact ⟨rfl, rfl⟩
theorem n27 (h : UnB w p) : Calls Tryd.prog 27 #[.pointer p] w (rt (KR (.slice none 0 0) w)) := by
  refine F27_ok ?_
  unfold F27
  simp only [rdP_mk]
  refine clr (n34 h) ⟨_, rfl, ?_⟩
  exact ⟨rfl, rfl⟩
theorem n33 (h : UnB w p) : Calls Tryd.prog 33 #[.pointer p] w (rt (KR (.slice none 0 0) w)) := by
  refine F33_ok ?_
  unfold F33
  simp only [rdP_mk]
  refine clr (n34 h) ⟨_, rfl, ?_⟩
  exact ⟨rfl, rfl⟩
theorem n74 {fv : Value} : Calls Tryd.prog 74 #[.slice none 0 0, fv] w (rt (KR (.int .i64 (-1)) w)) := by
  refine F74_ok ?_
  unfold F74
  simp only [rdC_mk]
  refine ⟨1, ?_⟩
  show F74_1B _ _ _ _ _ _ _ _
  unfold F74_1B
  simp only [rdC_mk, rdI_mk, br_dec]
  exact ⟨fun h => by exfalso; omega, fun _ _g => ⟨rfl, rfl⟩⟩
theorem n58 {fv : Value} : Calls Tryd.prog 58 #[.slice none 0 0, fv] w (rt (KR (.slice none 0 0) w)) := by
  refine F58_ok ?_
  unfold F58
  simp only [rdC_mk]
  refine clr n74 ⟨_, rfl, ?_⟩
  rw [show ((-1 : Int) == -1) = true from rfl, br_true]
  exact ⟨rfl, rfl⟩
theorem n32 (h : UnB w p) : Calls Tryd.prog 32 #[.pointer p] w (rt fun v w' => v = .slice none 0 0 ∧ Same w w') := by
  refine F32_ok ?_
  unfold F32
  simp only [rdP_mk]
  refine (Hs.start w).alc fun g w1 h1 => ?_
  have u1 := h.same h1.old
  refine h1.ldP 0 rfl rfl ?_
  refine clr (n27 u1) ⟨_, _, _, rfl, ?_⟩
  exact clr n58 ⟨_, _, _, rfl, rfl, h1.old⟩
theorem n17 (h : UnB w p) (win N : Int) : Calls Tryd.prog 17 #[.pointer p, .int .u32 win, .int .i64 N] w (rt fun v w' => v = .tuple #[.agg (chA zCH), .int .i64 4] ∧ Same w w') := by
  refine F17_ok ?_
  unfold F17
  simp only [rdP_mk, rdI_mk]
  refine (Hs.start w).alc fun g w1 h1 => h1.alc fun rb w2 h2 => ?_
  have u2 := h.same h2.old
  refine h2.ldP 1 rfl rfl ?_
  refine clr (n34 u2) ⟨_, rfl, ?_⟩
  rw [Bool.not_false, br_true]
  refine sto15_ok (c0 := zCH) h2 0 rfl zCH fun w3 h3 => lod15_ok (c := zCH) (K := fun c => (.tuple #[.agg (chA c), .int .i64 4] : Value) = .tuple #[.agg (chA zCH), .int .i64 4] ∧ Same w w3) h3 0 rfl ⟨rfl, h3.old⟩
theorem c7_loop {tsn n : Int} {b s : Nat} {K0 : World → Prop} {Kr : Value → World → Prop} {W : World} {L : List HP} : ∀ (i j : Nat) (w : World) (k : Nat), j + i = 2 →
    Hs W (pt s (.cells #[.pointer none, .pointer (some ⟨b, 0, none⟩)] 25 (0, 0)) :: pt b zbox :: L) w → i < k →
    (∀ w', Same W w' → K0 w') → F7_1 K0 Kr k (.int .u32 tsn) (.int .i64 n) (.slice (some ⟨s, 0, none⟩) 2 2) (.int .i64 2) (.int .i64 (j : Int)) w := by
  intro i
  induction i with
  | zero =>
    intro j w k hj h hk hK
    obtain ⟨k, rfl⟩ : ∃ j, k = j + 1 := ⟨k - 1, by omega⟩
    show F7_1B _ _ _ _ _ _ _ _ _
    unfold F7_1B
    simp only [rdI_mk, rdC_mk, br_dec]
    exact ⟨fun h => by exfalso; omega, fun _ => hK w h.old⟩
  | succ i ih =>
    intro j w k hj h hk hK
    obtain ⟨k, rfl⟩ : ∃ j, k = j + 1 := ⟨k - 1, by omega⟩
    show F7_1B _ _ _ _ _ _ _ _ _
    unfold F7_1B
    simp only [rdI_mk, rdC_mk, br_dec]
    refine ⟨fun _ => ?_, fun h => by exfalso; omega⟩
    refine ixS_of (by omega) (by omega) ?_
    have hz := h.at 1 rfl
    obtain ⟨p, hp, hu⟩ : ∃ p : Option Addr, (#[.pointer none, .pointer (some ⟨b, 0, none⟩)] : Array Value)[0 + (j : Int).toNat * 1]? = some (.pointer p) ∧ UnB w p := by
      rcases Nat.lt_or_ge j 1 with h1 | h1
      · have : j = 0 := by omega
        subst this
        exact ⟨none, rfl, .inl rfl⟩
      · have : j = 1 := by omega
        subst this
        exact ⟨_, rfl, .inr ⟨b, rfl, hz⟩⟩
    rw [add_mk]
    refine h.ldP 0 rfl hp ?_
    refine clr (n10 hu tsn) ⟨_, _, rfl, ?_⟩
    refine cl (n17 hu 1 n) ?_
    rintro _ w1 ⟨rfl, s1⟩
    refine ⟨_, _, _, _, _, _, _, _, _, _, _, _, _, _, _, _, _, _, _, _, _, _, _, _, _, _, rfl, ?_⟩
    have h1 := h.same s1
    refine h1.alc fun g w2 h2 => ?_
    refine sto15_ok (c0 := zCH) h2 0 rfl zCH fun w3 h3 => ?_
    have h3 := h3.drop
    have hu := (hu.same s1)
    have hu3 : UnB w3 p := by
      rcases hu with h | ⟨b', e, hb'⟩
      · exact .inl h
      · rcases Nat.lt_or_ge j 1 with h1 | h1
        · have : j = 0 := by omega
          subst this
          cases hp; cases e
        · have : j = 1 := by omega
          subst this
          cases hp; cases e
          exact .inr ⟨b, rfl, h3.at 1 rfl⟩
    refine clr (n22 hu3) ⟨_, _, rfl, ?_⟩
    rw [br_false, show ((4 : Int) != 4) = false from rfl, br_false, br_false]
    refine clr (n21 hu3 n) ⟨_, rfl, ?_⟩
    rw [show ((4 : Int) != 4) = false from rfl, br_false, br_false]
    refine clr (n31 hu3 tsn) ⟨_, rfl, ?_⟩
    rw [br_false]
    refine clr (n20 hu3 tsn) ⟨_, rfl, ?_⟩
    rw [br_false]
    refine clr (n24 hu3) ⟨_, rfl, ?_⟩
    rw [show ((0 : Int) != 0) = false from rfl, br_false]
    unfold alc
    have h4 := h3.alloc (.cells #[.int .u32 tsn] 22)
    have s4 : Same w3 (w3.alloc (.cells #[.int .u32 tsn] 22)) := (Fr.refl w3).alloc _
    generalize w3.alloc (.cells #[.int .u32 tsn] 22) = w4 at h4 s4 ⊢
    generalize w3.heap.size = g4 at h4 ⊢
    have hu4 := hu3.same s4
    have h4 := h4.drop
    refine clr (n12 hu4) ⟨_, rfl, ?_⟩
    refine clr (n27 hu4) ⟨_, _, _, rfl, ?_⟩
    refine cl (n32 hu4) ?_
    rintro _ w5 ⟨rfl, s5⟩
    refine ⟨_, _, _, rfl, ?_⟩
    refine clr (n33 (hu4.same s5)) ⟨_, _, _, rfl, ?_⟩
    rw [show (IntKind.wrap .i64 ((IntKind.wrap .i64 ((IntKind.wrap .i64 ((IntKind.wrap .i64 ((0 : Int) + 0)) + ((0 : Nat) : Int))) + ((0 : Nat) : Int))) + ((0 : Nat) : Int)) != 0) = false from by decide, br_false]
    rw [show IntKind.wrap .i64 ((j : Int) + 1) = ((j + 1 : Nat) : Int) by rw [wrap_i64 (by omega) (by omega)]; omega]
    exact ih (j + 1) w5 k (by omega) (h4.same s5) (by omega) hK
theorem c7 (ht : TB w) (tsn n : Int) : Calls Tryd.prog 7 #[.int .u32 tsn, .int .i64 n] w (rt fun v w' => v = .bool true ∧ Same w w') := by
  refine F7_ok ?_
  unfold F7
  simp only [rdI_mk]
  refine (Hs.start w).alc fun b w1 h1 => h1.alc fun s w2 h2 => ?_
  refine ⟨3, c7_loop (L := []) 2 0 w2 3 rfl h2 (by decide) fun w3 s3 _ => ?_⟩
  refine cl (c19 (ht.fr s3 id)) ?_
  rintro _ w4 ⟨rfl, s4⟩
  exact ⟨_, rfl, rfl, s3.trans s4 fun _ _ x => x⟩
end
end Go.Proofs.YtccffjlahpfdaaaDoor
