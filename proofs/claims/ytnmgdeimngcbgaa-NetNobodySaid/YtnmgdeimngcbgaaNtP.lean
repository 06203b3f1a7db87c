/- Own text: part of the shallow reading of the code and of the contracts that are proved over it. -/
import Derived.Test.YtnmgdeimngcbgaaNtO
namespace Go.Proofs.Ytnmgdeimngcbgaa
open Go Go.Sh
/-! a network that nobody made -/
def Un (w : World) (p : Option Addr) : Prop := p = none ∨ ∃ b, p = some ⟨b, 0, none⟩ ∧ w.heap[b]? = some (.cells #[.slice none 0 0, .slice none 0 0, .int .i64 0] 57 (0, 0))
theorem Un.same {w w' : World} {p : Option Addr} (h : Un w p) (hf : Same w w') : Un w' p := by
  rcases h with h | ⟨b, h1, h2⟩
  · exact .inl h
  · exact .inr ⟨b, h1, hf.blk h2 fun x => x⟩
section
variable {w : World} {p : Option Addr} {e q : Int}
theorem n23 (h : Un w p) : Calls Try.prog 23 #[.pointer p] w (rt (KR (.int .i64 0) w)) := by
  refine F23_ok ?_
  unfold F23
  rcases h with rfl | ⟨b, rfl, h⟩
  · simp only [rdP_mk, Option.isNone_none, br_true]
    exact KR.mk _ _
  · simp only [rdP_mk, Option.isNone_some, br_false, nn_some, add_mk]
    exact ldC_at h rfl (KR.mk _ _)
theorem n33 (h : Un w p) : Calls Try.prog 33 #[.pointer p, .int .i64 e, .int .i64 q] w (rt (KR (.tuple #[.pointer none, .int .i64 4]) w)) := by
  refine F33_ok ?_
  unfold F33
  simp only [rdP_mk, rdI_mk]
  refine clr (n23 h) ⟨_, rfl, ?_⟩
  simp only [beq_self_eq_true, br_true]
  exact KR.mk _ _
theorem e4 : ((4 : Int) != 0) = true := rfl
theorem n24 (h : Un w p) {a : Option Addr} {l c : Nat} {now : Int} {f : Bool} : Calls Try.prog 24 #[.pointer p, .int .i64 e, .int .i64 q, .slice a l c, .int .i64 now, .bool f] w (rt (KR (.tuple #[.int .i64 0, .int .i64 4]) w)) := by
  refine F24_ok ?_
  unfold F24
  simp only [rdP_mk, rdI_mk, rdC_mk, rdB_mk]
  refine clr (n33 h) ⟨_, _, rfl, ?_⟩
  rw [e4, br_true]
  exact KR.mk _ _
theorem n9 (h : Un w p) {a : Option Addr} {l c : Nat} {now : Int} : Calls Try.prog 9 #[.pointer p, .int .i64 e, .int .i64 q, .slice a l c, .int .i64 now] w (rt (KR (.tuple #[.int .i64 0, .int .i64 4]) w)) := by
  refine F9_ok ?_
  unfold F9
  simp only [rdP_mk, rdI_mk, rdC_mk]
  exact clr (n24 h) ⟨_, _, rfl, KR.mk _ _⟩
theorem n16 (h : Un w p) {a : Option Addr} {l c : Nat} {now : Int} : Calls Try.prog 16 #[.pointer p, .int .i64 e, .int .i64 q, .slice a l c, .int .i64 now] w (rt (KR (.tuple #[.int .i64 0, .int .i64 4]) w)) := by
  refine F16_ok ?_
  unfold F16
  simp only [rdP_mk, rdI_mk, rdC_mk]
  exact clr (n24 h) ⟨_, _, rfl, KR.mk _ _⟩
theorem n11 (h : Un w p) : Calls Try.prog 11 #[.pointer p, .int .i64 e, .int .i64 q] w (rt (KR (.tuple #[.slice none 0 0, .int .i64 4]) w)) := by
  refine F11_ok ?_
  unfold F11
  simp only [rdP_mk, rdI_mk]
  refine clr (n33 h) ⟨_, _, rfl, ?_⟩
  rw [e4, br_true]
  exact KR.mk _ _
theorem n34 (h : Un w p) {i : Int} {f : Value} : Calls Try.prog 34 #[.pointer p, .int .i64 e, .int .i64 q, .int .i64 i, f] w (rt (KR (.int .i64 4) w)) := by
  refine F34_ok ?_
  unfold F34
  simp only [rdP_mk, rdI_mk]
  refine clr (n33 h) ⟨_, _, rfl, ?_⟩
  rw [e4, br_true]
  exact KR.mk _ _
theorem n12 (h : Un w p) {i : Int} : Calls Try.prog 12 #[.pointer p, .int .i64 e, .int .i64 q, .int .i64 i] w (rt fun v w' => v = .tuple #[.slice none 0 0, .int .i64 4] ∧ Same w w') := by
  refine F12_ok ?_
  unfold F12 alc
  simp only [rdP_mk, rdI_mk]
  have f1 : Same w (w.alloc (.cells #[.slice none 0 0] 23)) := (Fr.refl w).alloc _
  refine clr (n34 (h.same f1)) ⟨_, rfl, ldC_at (alloc_new _ _) rfl ⟨rfl, f1⟩⟩
theorem n17 (h : Un w p) {i : Int} : Calls Try.prog 17 #[.pointer p, .int .i64 e, .int .i64 q, .int .i64 i] w (rt fun v w' => v = .tuple #[.int .i64 0, .int .i64 4] ∧ Same w w') := by
  refine F17_ok ?_
  unfold F17 alc
  simp only [rdP_mk, rdI_mk]
  obtain ⟨w1, hw1⟩ : ∃ w1, w1 = w.alloc (.cells #[.int .i64 0] 3) := ⟨_, rfl⟩
  have q1 : w1.heap[w.heap.size]? = some (.cells #[.int .i64 0] 3 (0, 0)) := by rw [hw1]; exact alloc_new _ _
  have f1 : Same w w1 := by rw [hw1]; exact (Fr.refl w).alloc _
  have z1 : w1.heap.size = w.heap.size + 1 := by rw [hw1]; simp
  rw [← hw1]
  clear hw1
  have r1 : (w1.alloc (.cells #[.bool false] 4)).heap[w1.heap.size]? = some (.cells #[.bool false] 4 (0, 0)) := alloc_new _ _
  refine stc_at (alloc_blk q1) (by simp) (stc_at (cs := #[.bool false]) (T := 4) (by rw [sb_other (by omega)]; exact r1) (by simp) ?_)
  generalize hw2 : sb (sb _ _ _) _ _ = w2
  have f2 : Same w w2 := by rw [← hw2]; exact ((f1.alloc _).sb (b := w.heap.size) fun x => by omega).sb (b := w1.heap.size) fun x => by omega
  have q2 : w2.heap[w.heap.size]? = some (.cells #[.int .i64 0] 3 (0, 0)) := by rw [← hw2, sb_other (by omega)]; exact sb_same (alloc_blk q1)
  have r2 : w2.heap[w1.heap.size]? = some (.cells #[.bool false] 4 (0, 0)) := by rw [← hw2]; exact sb_same (by rw [sb_other (by omega)]; exact r1)
  clear hw2
  refine clr (n34 (h.same f2)) ⟨_, rfl, ldB_at r2 rfl ?_⟩
  simp only [br_false]
  exact ldI_at q2 rfl ⟨rfl, f2⟩
theorem n13 (h : Un w p) : Calls Try.prog 13 #[.pointer p, .int .i64 e, .int .i64 q] w (rt fun v w' => v = .tuple #[.agg #[.int .i64 0, .int .i64 0, .int .i64 0, .int .i64 0], .int .i64 4] ∧ Same w w') := by
  refine F13_ok ?_
  unfold F13 alc
  simp only [rdP_mk, rdI_mk]
  have f1 : Same w (w.alloc (.cells #[.int .i64 0, .int .i64 0, .int .i64 0, .int .i64 0] 48)) := (Fr.refl w).alloc _
  have b1 := alloc_new w (.cells #[.int .i64 0, .int .i64 0, .int .i64 0, .int .i64 0] 48)
  refine clr (n33 (h.same f1)) ⟨_, _, rfl, ?_⟩
  rw [e4, br_true]
  simp only [add_mk]
  refine stc_at b1 (by simp) (stc_at (sb_same b1) (by simp) (stc_at (sb_same (sb_same b1)) (by simp) (stc_at (sb_same (sb_same (sb_same b1))) (by simp) ?_)))
  generalize hw2 : sb _ w.heap.size _ = w2
  have q2 : w2.heap[w.heap.size]? = some (.cells #[.int .i64 0, .int .i64 0, .int .i64 0, .int .i64 0] 48 (0, 0)) := by rw [← hw2]; exact sb_same (sb_same (sb_same (sb_same b1)))
  have f2 : Same w w2 := by rw [← hw2]; exact (((f1.sb (b := w.heap.size) fun x => by omega).sb (b := w.heap.size) fun x => by omega).sb (b := w.heap.size) fun x => by omega).sb (b := w.heap.size) fun x => by omega
  clear hw2
  exact ldI_at q2 rfl (ldI_at q2 rfl (ldI_at q2 rfl (ldI_at q2 rfl ⟨rfl, f2⟩)))
theorem n18 (h : Un w p) {i : Int} : Calls Try.prog 18 #[.pointer p, .int .i64 e, .int .i64 q, .int .i64 i] w (rt (KR (.int .i64 4) w)) := by
  refine F18_ok ?_
  unfold F18
  simp only [rdP_mk, rdI_mk]
  exact clr (n34 h) ⟨_, rfl, KR.mk _ _⟩
theorem n44 (h : Un w p) {b : Bool} : Calls Try.prog 44 #[.pointer p, .int .i64 q, .bool b] w (rt (KR (.int .i64 4) w)) := by
  refine F44_ok ?_
  unfold F44
  simp only [rdP_mk, rdI_mk, rdB_mk]
  refine clr (n33 h) ⟨_, _, rfl, ?_⟩
  rw [e4, br_true]
  exact KR.mk _ _
theorem n20 (h : Un w p) : Calls Try.prog 20 #[.pointer p, .int .i64 q] w (rt (KR (.int .i64 4) w)) := by
  refine F20_ok ?_
  unfold F20
  simp only [rdP_mk, rdI_mk]
  exact clr (n44 h) ⟨_, rfl, KR.mk _ _⟩
theorem n21 (h : Un w p) : Calls Try.prog 21 #[.pointer p, .int .i64 q] w (rt (KR (.int .i64 4) w)) := by
  refine F21_ok ?_
  unfold F21
  simp only [rdP_mk, rdI_mk]
  exact clr (n44 h) ⟨_, rfl, KR.mk _ _⟩
theorem n22 (h : Un w p) : Calls Try.prog 22 #[.pointer p, .int .i64 q] w (rt (KR (.bool false) w)) := by
  refine F22_ok ?_
  unfold F22
  simp only [rdP_mk, rdI_mk]
  refine clr (n33 h) ⟨_, _, rfl, ?_⟩
  have : ((4 : Int) == 0) = false := rfl
  rw [this, br_false]
  exact KR.mk _ _
theorem n19 (h : Un w p) {i x y : Int} : Calls Try.prog 19 #[.pointer p, .int .i64 e, .int .i64 q, .int .i64 i, .int .i64 x, .int .u8 y] w (rt fun v w' => v = .int .i64 4 ∧ Same w w') := by
  refine F19_ok ?_
  unfold F19 alc
  simp only [rdP_mk, rdI_mk]
  obtain ⟨w1, hw1⟩ : ∃ w1, w1 = (w.alloc (.cells #[.int .i64 x] 3)).alloc (.cells #[.int .u8 y] 5) := ⟨_, rfl⟩
  have f1 : Same w w1 := by rw [hw1]; exact ((Fr.refl w).alloc _).alloc _
  have z1 : w1.heap.size = w.heap.size + 2 := by rw [hw1]; simp
  rw [← hw1]
  clear hw1
  refine stc_at (alloc_new w1 _) (by simp) ?_
  generalize hw2 : sb _ w1.heap.size _ = w2
  have f2 : Same w w2 := by rw [← hw2]; exact (f1.alloc _).sb (b := w1.heap.size) fun x => by omega
  have r2 : w2.heap[w1.heap.size]? = some (.cells #[.bool true] 4 (0, 0)) := by rw [← hw2]; exact sb_same (alloc_new w1 _)
  clear hw2
  refine clr (n34 (h.same f2)) ⟨_, rfl, ldB_at r2 rfl ?_⟩
  simp only [Bool.not_true, br_false]
  exact ⟨trivial, f2⟩
end
end Go.Proofs.Ytnmgdeimngcbgaa
