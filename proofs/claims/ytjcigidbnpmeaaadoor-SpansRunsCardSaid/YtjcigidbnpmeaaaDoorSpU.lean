/- Own text: part of the shallow reading of the code and of the contracts that are proved over it. -/
import Derived.Test.YtjcigidbnpmeaaaDoorSpQ
namespace Go.Proofs.YtjcigidbnpmeaaaDoor
open Go Go.Sh Go.Sp

/-! a set that nobody made -/
def Un (w : World) (p : Option Addr) : Prop := p = none ∨ ∃ b cs T, p = some ⟨b, 0, none⟩ ∧ w.heap[b]? = some (.cells cs T (0, 0)) ∧ cs[0]? = some (.map none)
theorem Un.same {w w' : World} {p : Option Addr} (h : Un w p) (hf : Same w w') : Un w' p := by
  rcases h with h | ⟨b, cs, T, h1, h2, h3⟩
  · exact .inl h
  · exact .inr ⟨b, cs, T, h1, hf.blk h2 fun x => x, h3⟩
section
variable {w : World} {p : Option Addr}
theorem u35 (h : Un w p) : Calls Tryd.prog 35 #[.pointer p] w (rt (KR (.bool false) w)) := by
  rcases h with rfl | ⟨b, cs, T, rfl, h2, h3⟩
  · exact c35_nil w
  · exact c35_un h2 h3
theorem u26 (h : Un w p) (t : Int) : Calls Tryd.prog 26 #[.pointer p, .int .u32 t] w (rt (KR (.tuple #[.bool false, .int .i64 4]) w)) := by
  refine F26_ok ?_
  unfold F26
  simp only [rdP_mk, rdI_mk]
  refine clr (u35 h) ⟨_, rfl, ?_⟩
  simp only [Bool.not_false, br_true]
  exact KR.mk _ _
theorem u28 (h : Un w p) (t : Int) : Calls Tryd.prog 28 #[.pointer p, .int .u32 t] w (rt (KR (.bool false) w)) := by
  refine F28_ok ?_
  unfold F28
  simp only [rdP_mk, rdI_mk]
  refine clr (u35 h) ⟨_, rfl, ?_⟩
  simp only [Bool.not_false, br_true]
  exact KR.mk _ _
theorem u21 (h : Un w p) (t : Int) : Calls Tryd.prog 21 #[.pointer p, .int .u32 t] w (rt (KR (.bool false) w)) := by
  refine F21_ok ?_
  unfold F21
  simp only [rdP_mk, rdI_mk]
  refine clr (u35 h) ⟨_, rfl, ?_⟩
  simp only [Bool.not_false, br_true]
  exact KR.mk _ _
theorem u10 (h : Un w p) : Calls Tryd.prog 10 #[.pointer p] w (rt (KR (.int .u32 0) w)) := by
  refine F10_ok ?_
  unfold F10
  simp only [rdP_mk]
  refine clr (u35 h) ⟨_, rfl, ?_⟩
  simp only [Bool.not_false, br_true]
  exact KR.mk _ _
theorem u34 (h : Un w p) : Calls Tryd.prog 34 #[.pointer p] w (rt (KR (.int .i64 0) w)) := by
  refine F34_ok ?_
  unfold F34
  simp only [rdP_mk]
  refine clr (u35 h) ⟨_, rfl, ?_⟩
  simp only [Bool.not_false, br_true]
  exact KR.mk _ _
theorem u20 (h : Un w p) : Calls Tryd.prog 20 #[.pointer p] w (rt fun v w' => v = .int .u32 0 ∧ Same w w') := by
  refine F20_ok ?_
  unfold F20 alc
  simp only [rdP_mk]
  have f1 : Same w (w.alloc (.cells #[.pointer p] 25)) := (Fr.refl w).alloc _
  refine ldP_at (alloc_new _ _) rfl ?_
  refine clr (u35 (h.same f1)) ⟨_, rfl, ?_⟩
  simp only [Bool.not_false, br_true]
  exact ⟨trivial, f1⟩
theorem u12 (h : Un w p) : Calls Tryd.prog 12 #[.pointer p] w (rt fun v w' => v = .slice none 0 0 ∧ Same w w') := by
  refine F12_ok ?_
  unfold F12 alc
  simp only [rdP_mk]
  have f1 : Same w (w.alloc (.cells #[.pointer p] 25)) := (Fr.refl w).alloc _
  refine ldP_at (alloc_new _ _) rfl ?_
  refine clr (u35 (h.same f1)) ⟨_, rfl, ?_⟩
  simp only [Bool.not_false, br_true]
  exact ⟨trivial, f1⟩
theorem u15 (h : Un w p) (n : Int) : Calls Tryd.prog 15 #[.pointer p, .int .i64 n] w (rt fun v w' => v = .slice none 0 0 ∧ Same w w') := by
  refine F15_ok ?_
  unfold F15 alc
  simp only [rdP_mk, rdI_mk]
  have f1 : Same w (w.alloc (.cells #[.int .i64 n] 3)) := (Fr.refl w).alloc _
  refine clr (u35 (h.same f1)) ⟨_, rfl, ?_⟩
  simp only [Bool.not_false, br_true]
  exact ⟨trivial, f1⟩
theorem u18 (h : Un w p) (n : Int) : Calls Tryd.prog 18 #[.pointer p, .int .i64 n] w (rt fun v w' => v = .slice none 0 0 ∧ Same w w') := by
  refine F18_ok ?_
  unfold F18 alc
  simp only [rdP_mk, rdI_mk]
  have f1 : Same w ((w.alloc (.cells #[.pointer p] 25)).alloc (.cells #[.int .i64 n] 3)) := ((Fr.refl w).alloc _).alloc _
  refine ldP_at (alloc_blk (alloc_new _ _)) rfl ?_
  refine clr (u35 (h.same f1)) ⟨_, rfl, ?_⟩
  simp only [Bool.not_false, br_true]
  exact ⟨trivial, f1⟩
end
section
variable {t n : Int}
theorem c8_loop {w0 : World} {g : Nat} {l : List (Option Addr)} (hu : ∀ p ∈ l, Un w0 p) (hc : Rd w0 (some ⟨g, 0, none⟩) (l.map Value.pointer)) (hl : l.length = 2) {K0 : World → Prop} {Kr : Value → World → Prop} : ∀ (i j : Nat) (w : World) (k : Nat), j + i = 2 → Same w0 w → i < k → (∀ w', Same w0 w' → K0 w') →
    F8_1 K0 Kr k (.int .u32 t) (.int .i64 n) (.slice (some ⟨g, 0, none⟩) 2 2) (.int .i64 (2 : Int)) (.int .i64 (j : Int)) w := by
  intro i
  induction i with
  | zero =>
    intro j w k hj hf hk hK
    obtain ⟨k, rfl⟩ : ∃ j, k = j + 1 := ⟨k - 1, by omega⟩
    show F8_1B _ _ _ _ _ _ _ _ _
    unfold F8_1B
    simp only [rdI_mk, rdC_mk, br_dec]
    exact ⟨fun h => by exfalso; omega, fun _ => hK w hf⟩
  | succ i ih =>
    intro j w k hj hf hk hK
    obtain ⟨k, rfl⟩ : ∃ j, k = j + 1 := ⟨k - 1, by omega⟩
    show F8_1B _ _ _ _ _ _ _ _ _
    unfold F8_1B
    simp only [rdI_mk, rdC_mk, br_dec]
    refine ⟨fun _ => ?_, fun h => by exfalso; omega⟩
    obtain ⟨p, hp⟩ : ∃ x, l[j]? = some x := ⟨l[j]'(by omega), by simp⟩
    have hu0 := (hu p (List.mem_of_getElem? hp)).same hf
    have hg : (l.map Value.pointer)[j]? = some (.pointer p) := by simp [hp]
    refine ixS_of (by omega) (by omega) ?_
    simp only [Int.toNat_natCast, Nat.mul_one]
    refine ldP_c ((Rd.same hc hf).at hg) ?_
    refine clr (u26 hu0 t) ⟨_, _, rfl, ?_⟩
    have e4 : ((4 : Int) != 4) = false := rfl
    rw [br_false, e4, br_false]
    refine clr (u28 hu0 t) ⟨_, rfl, clr (u21 hu0 t) ⟨_, rfl, clr (u10 hu0) ⟨_, rfl, ?_⟩⟩⟩
    have e0 : ((0 : Int) != 0) = false := rfl
    rw [e0, br_false]
    refine cl (u20 hu0) ?_
    rintro _ w1 ⟨rfl, f1⟩
    refine ⟨_, rfl, ?_⟩
    rw [e0, br_false]
    have u1 := hu0.same f1
    refine clr (u34 u1) ⟨_, rfl, ?_⟩
    refine cl (u12 u1) ?_
    rintro _ w2 ⟨rfl, f2⟩
    refine ⟨_, _, _, rfl, ?_⟩
    have u2 := u1.same f2
    refine cl (u15 u2 n) ?_
    rintro _ w3 ⟨rfl, f3⟩
    refine ⟨_, _, _, rfl, ?_⟩
    have u3 := u2.same f3
    refine cl (u18 u3 n) ?_
    rintro _ w4 ⟨rfl, f4⟩
    refine ⟨_, _, _, rfl, ?_⟩
    have e5 : ((IntKind.wrap .i64 ((IntKind.wrap .i64 ((IntKind.wrap .i64 ((0 : Int) + ((0 : Nat) : Int))) + ((0 : Nat) : Int))) + ((0 : Nat) : Int))) != 0) = false := by decide
    rw [e5, br_false]
    have e1 : IntKind.wrap .i64 ((j : Int) + 1) = ((j + 1 : Nat) : Int) := by rw [wrap_i64 (by omega) (by omega)]; omega
    rw [e1]
    exact ih (j + 1) w4 k (by omega) ((((hf.trans f1 fun _ _ x => x).trans f2 fun _ _ x => x).trans f3 fun _ _ x => x).trans f4 fun _ _ x => x) (by omega) hK
theorem c8 {w : World} (ht : TB w) : Calls Tryd.prog 8 #[.int .u32 t, .int .i64 n] w (rt fun v w' => v = .bool true ∧ Same w w') := by
  refine F8_ok ?_
  unfold F8 alc
  simp only [rdI_mk]
  obtain ⟨w1, hw1⟩ : ∃ w1, w1 = w.alloc (.cells #[.map none, .int .i64 0, .int .u32 0] 67) := ⟨_, rfl⟩
  have b1 : w1.heap[w.heap.size]? = some (.cells #[.map none, .int .i64 0, .int .u32 0] 67 (0, 0)) := by rw [hw1]; exact alloc_new _ _
  have f1 : Same w w1 := by rw [hw1]; exact (Fr.refl w).alloc _
  rw [← hw1]
  clear hw1
  obtain ⟨w2, hw2⟩ : ∃ w2, w2 = w1.alloc (.cells #[.pointer none, .pointer (some ⟨w.heap.size, 0, none⟩)] 25) := ⟨_, rfl⟩
  have b2 : w2.heap[w1.heap.size]? = some (.cells #[.pointer none, .pointer (some ⟨w.heap.size, 0, none⟩)] 25 (0, 0)) := by rw [hw2]; exact alloc_new _ _
  have q2 : w2.heap[w.heap.size]? = some (.cells #[.map none, .int .i64 0, .int .u32 0] 67 (0, 0)) := by rw [hw2]; exact alloc_blk b1
  have f2 : Same w w2 := by rw [hw2]; exact f1.alloc _
  rw [← hw2]
  clear hw2
  refine ⟨3, c8_loop (w0 := w2) (l := [none, some ⟨w.heap.size, 0, none⟩]) (fun p hp => ?_) (fun j u hj => ⟨_, rfl, ?_⟩) rfl 2 0 w2 _ rfl (Fr.refl w2) (by omega) fun w3 f3 _g => ?_⟩
  · simp at hp
    rcases hp with rfl | rfl
    · exact .inl rfl
    · exact .inr ⟨_, _, _, rfl, q2, rfl⟩
  · rw [add_mk, cell_at b2]
    match j, hj with
    | 0, hj => simpa using hj
    | 1, hj => simpa using hj
    | j + 2, hj => simp at hj
  · have g3 : Same w w3 := f2.trans f3 fun _ _ x => x
    refine cl (c13 (ht.fr g3 fun x => x)) ?_
    rintro _ w7 ⟨rfl, f7⟩
    exact ⟨_, rfl, rfl, g3.trans f7 fun _ _ x => x⟩
end
end Go.Proofs.YtjcigidbnpmeaaaDoor
