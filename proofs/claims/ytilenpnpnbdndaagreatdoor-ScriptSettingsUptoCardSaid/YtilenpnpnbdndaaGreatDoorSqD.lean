/- Own text: part of the shallow reading of the code and of the contracts that are proved over it. -/
import Derived.Test.YtilenpnpnbdndaaGreatDoorSrL
import Derived.Test.YtilenpnpnbdndaaGreatDoorSrI
import Derived.Test.YtilenpnpnbdndaaGreatDoorSqA
import Derived.Lib.Bytealg
/-
  strings.IndexByte, Index and Count at one byte.
-/
namespace Go.Proofs.YtilenpnpnbdndaaGreatDoor
open Go Go.Sh
set_option maxRecDepth 100000
attribute [local instance] Esc.none
section
variable {w : World} {s : ByteArray} {c : Int}
theorem ru112 (v : Array Value) (w : World) : Sem.run Tryz.prog (callFunc 112 v) w = Sem.run Tryz.prog (do pure (Next.value (← Extern.BytealgIndexByte.indexByte v))) w := by kernel_rfl
theorem ru103 (v : Array Value) (w : World) : Sem.run Tryz.prog (callFunc 103 v) w = Sem.run Tryz.prog (do pure (Next.value (← Extern.BytealgCount.count v))) w := by kernel_rfl
theorem run112 : Sem.run Tryz.prog (callFunc 112 #[.string s, .int .u8 c]) w = .ok (.value (.int .i64 (Lib.indexByte s.data.toList c.toNat.toUInt8))) w := by
  rw [ru112, Sem.run_bind, Lib.run_indexByteString]
  rfl
theorem run103 : Sem.run Tryz.prog (callFunc 103 #[.string s, .int .u8 c]) w = .ok (.value (.int .i64 (Lib.countByte s.data.toList c.toNat.toUInt8))) w := by
  rw [ru103, Sem.run_bind, Lib.run_countString]
  rfl
theorem c96 : Calls Tryz.prog 96 #[.string s, .int .u8 c] w (rt (KR (.int .i64 (Lib.indexByte s.data.toList c.toNat.toUInt8)) w)) := by
  refine F96_ok ?_
  unfold F96
  simp only [rdS_mk, rdI_mk]
  exact ⟨_, _, run112, KR.mk _ _⟩
theorem c67 : Calls Tryz.prog 67 #[.string s, .int .u8 c] w (rt (KR (.int .i64 (Lib.indexByte s.data.toList c.toNat.toUInt8)) w)) := by
  refine F67_ok ?_
  unfold F67
  simp only [rdS_mk, rdI_mk]
  exact clr c96 ⟨_, rfl, KR.mk _ _⟩
theorem ixT_one {b : UInt8} {K : Int → Prop} (hk : K (b.toNat : Int)) : ixT ⟨#[b]⟩ 0 K := ⟨b, ⟨by omega, rfl⟩, hk⟩
theorem u8_back (b : UInt8) : ((b.toNat : Int).toNat.toUInt8) = b := by simp
theorem c104 {b : UInt8} : Calls Tryz.prog 104 #[.string s, .string ⟨#[b]⟩] w (rt (KR (.int .i64 (Lib.indexByte s.data.toList b)) w)) := by
  refine F104_ok ?_
  unfold F104
  simp only [rdS_mk]
  have e0 : (((ByteArray.mk #[b]).size : Int) == 0) = false := rfl
  rw [e0, br_false]
  unfold F104_6
  simp only [rdS_mk, rdI_mk, rdB_mk]
  have e2 : (((ByteArray.mk #[b]).size : Int) == 1) = true := rfl
  rw [str_beq, br_dec]
  refine ⟨fun he => ?_, fun _ => ?_⟩
  · subst he
    intro _
    have : Lib.indexByte (ByteArray.mk #[b]).data.toList b = 0 := by simp [Lib.indexByte]
    rw [this]
    exact KR.mk _ _
  · rw [e2, br_true]
    refine ixT_one (clr c96 ⟨_, rfl, ?_⟩)
    rw [u8_back]
    intro _
    exact KR.mk _ _
theorem c88 {b : UInt8} : Calls Tryz.prog 88 #[.string s, .string ⟨#[b]⟩] w (rt (KR (.int .i64 (Lib.indexByte s.data.toList b)) w)) := by
  refine F88_ok ?_
  unfold F88
  simp only [rdS_mk]
  exact clr c104 ⟨_, rfl, KR.mk _ _⟩
theorem c87 {b : UInt8} : Calls Tryz.prog 87 #[.string s, .string ⟨#[b]⟩] w (rt (KR (.int .i64 (s.data.toList.count b)) w)) := by
  refine F87_ok ?_
  unfold F87
  simp only [rdS_mk]
  have e0 : (((ByteArray.mk #[b]).size : Int) == 0) = false := rfl
  have e2 : (((ByteArray.mk #[b]).size : Int) == 1) = true := rfl
  rw [e0, br_false, e2, br_true]
  refine ixT_one ⟨_, _, run103, ?_⟩
  rw [u8_back]
  exact KR.mk _ _
end
end Go.Proofs.YtilenpnpnbdndaaGreatDoor
/-
  Words between blanks, plain.
-/
namespace Go.Proofs.YtilenpnpnbdndaaGreatDoor
open Go Go.Sh
/-- the words of a line -/
def wrds : List UInt8 → List (List UInt8)
  | [] => [[]]
  | x :: r => if x = 32 then [] :: wrds r else match wrds r with | w :: ws => (x :: w) :: ws | [] => [[x]]
theorem wrds_ne : ∀ l, wrds l ≠ []
  | [] => by simp [wrds]
  | x :: r => by
    unfold wrds
    split
    · simp
    · split <;> simp
theorem wrds_length : ∀ l, (wrds l).length = l.count 32 + 1
  | [] => rfl
  | x :: r => by
    unfold wrds
    have ih := wrds_length r
    split
    · rename_i h
      subst h
      rw [List.length_cons, ih, List.count_cons_self]
    · rename_i h
      rw [List.count_cons_of_ne (by exact h)]
      split
      · rename_i w ws e
        rw [e] at ih
        simpa using ih
      · rename_i e
        exact absurd e (wrds_ne r)
theorem wrds_none : ∀ {l : List UInt8}, 32 ∉ l → wrds l = [l]
  | [], _ => rfl
  | x :: r, h => by
    have hx : x ≠ 32 := fun e => h (by simp [e])
    have ih := wrds_none (l := r) fun hr => h (by simp [hr])
    unfold wrds
    rw [if_neg hx, ih]
theorem wrds_split : ∀ (a b : List UInt8), 32 ∉ a → wrds (a ++ 32 :: b) = a :: wrds b
  | [], b, _ => by simp [wrds]
  | x :: r, b, h => by
    have hx : x ≠ 32 := fun e => h (by simp [e])
    have ih := wrds_split r b fun hr => h (by simp [hr])
    rw [List.cons_append]
    conv => lhs; unfold wrds
    rw [if_neg hx, ih]
theorem ix_none {l : List UInt8} {c : UInt8} (h : Lib.indexByte l c < 0) : c ∉ l := by
  induction l with
  | nil => simp
  | cons x r ih =>
    unfold Lib.indexByte at h
    split at h
    · omega
    · rename_i hx
      have hx : x ≠ c := by simpa using hx
      split at h
      · rename_i hr
        have hr : Lib.indexByte r c = -1 := by simpa using hr
        have := ih (by omega)
        simp [Ne.symm hx, this]
      · have := Lib.indexByte_ge r c
        omega
theorem ix_some {c : UInt8} : ∀ {l : List UInt8}, 0 ≤ Lib.indexByte l c → ∃ m : Nat, Lib.indexByte l c = (m : Int) ∧ m < l.length ∧ c ∉ l.take m ∧ l = l.take m ++ c :: l.drop (m + 1)
  | [], h => by simp [Lib.indexByte] at h
  | x :: r, h => by
    unfold Lib.indexByte at h ⊢
    split
    · rename_i hx
      have hx : x = c := by simpa using hx
      subst hx
      exact ⟨0, rfl, by simp, by simp, by simp⟩
    · rename_i hx
      have hx : x ≠ c := by simpa using hx
      rw [if_neg (by simpa using hx)] at h
      split at h
      · omega
      · rename_i hr
        have hr : Lib.indexByte r c ≠ -1 := by simpa using hr
        have h0 := Lib.indexByte_ge r c
        obtain ⟨m, h1, h2, h3, h4⟩ := ix_some (c := c) (l := r) (by omega)
        rw [if_neg (by simpa using hr)]
        refine ⟨m + 1, by omega, by simp; omega, ?_, ?_⟩
        · rw [List.take_succ_cons, List.mem_cons]
          rintro (e | e)
          · exact hx e.symm
          · exact h3 e
        · simp only [List.take_succ_cons, List.drop_succ_cons, List.cons_append]
          rw [← h4]
end Go.Proofs.YtilenpnpnbdndaaGreatDoor
/-
  strings.Split at a blank.
-/
namespace Go.Proofs.YtilenpnpnbdndaaGreatDoor
open Go Go.Sh
set_option maxRecDepth 100000
attribute [local instance] Esc.none
def bs (l : List UInt8) : ByteArray := ⟨l.toArray⟩
def bl (s : ByteArray) : List UInt8 := s.data.toList
theorem bl_bs (l : List UInt8) : bl (bs l) = l := rfl
theorem bs_bl (s : ByteArray) : bs (bl s) = s := by unfold bs bl; cases s; simp
theorem bl_len (s : ByteArray) : (bl s).length = s.size := by unfold bl; simp
def words (s : ByteArray) : List ByteArray := (wrds (bl s)).map bs
theorem slT_hi {s : ByteArray} {k : IntKind} {m : Nat} {K : ByteArray → Prop} (hm : m ≤ s.size) (hk : K (bs ((bl s).take m))) : slT s none (some (.int k (m : Int))) K := by
  refine ⟨⟨by omega, by omega⟩, ?_⟩
  show K (s.extract 0 ((m : Int).toNat))
  have : s.extract 0 ((m : Int).toNat) = bs ((bl s).take m) := str_ext (by simp [bs, bl, ByteArray.data_extract])
  rw [this]; exact hk
theorem slT_lo {s : ByteArray} {k : IntKind} {m : Nat} {K : ByteArray → Prop} (hm : m ≤ s.size) (hk : K (bs ((bl s).drop m))) : slT s (some (.int k (m : Int))) none K := by
  refine ⟨⟨by omega, by omega⟩, ?_⟩
  show K (s.extract ((m : Int).toNat) s.size)
  have : s.extract ((m : Int).toNat) s.size = bs ((bl s).drop m) := str_ext (by
    have e : s.size = s.data.size := rfl
    rw [ByteArray.data_extract, e]
    simp [bs, bl]
    exact List.take_of_length_le (by simp))
  rw [this]; exact hk
section
variable {W w : World} {N : List HP}
theorem F55_loop {a : Addr} {n c : Nat} {K0 : Value → Value → Value → World → Prop} :
    ∀ (m j k : Nat) (s : ByteArray) (pre : List ByteArray) (post : List Value) (w : World), m + 1 = (wrds (bl s)).length → j + m + 1 = n → pre.length = j → post.length = m + 1 → n ≤ 16777216 → s.size ≤ 1000000000 → m < k →
      (∀ s' w', words s = (words s).take m ++ [s'] → Hs W (slP 9 1 (some a) n c (wsV (pre ++ (words s).take m) ++ post.drop m) :: N) w' → K0 (.string s') (.slice (some a) n c) (.int .i64 ((j + m : Nat) : Int)) w') →
      Hs W (slP 9 1 (some a) n c (wsV pre ++ post) :: N) w →
      F55_1 K0 k (.string s) (.string ⟨#[32]⟩) (.int .i64 0) (.int .i64 ((n - 1 : Nat) : Int)) (.slice (some a) n c) (.int .i64 (j : Int)) w := by
  intro m
  induction m with
  | zero =>
    intro j k s pre post w hm hj hp hq hn hs hk hK h
    obtain ⟨k, rfl⟩ : ∃ i, k = i + 1 := ⟨k - 1, by omega⟩
    show F55_1B _ _ _ _ _ _ _ _ _
    unfold F55_1B
    simp only [rdS_mk, rdI_mk, rdC_mk]
    rw [br_dec]
    refine ⟨fun hlt => by exfalso; omega, fun _ => ?_⟩
    have hw : (words s) = [s] := by
      have : 32 ∉ bl s := by
        have := wrds_length (bl s)
        rw [← hm] at this
        exact fun hmem => by have := List.count_pos_iff.2 hmem; omega
      unfold words
      rw [wrds_none this]
      simp [bs_bl]
    exact hK s w (by rw [hw]; rfl) (by simpa using h)
  | succ m ih =>
    intro j k s pre post w hm hj hp hq hn hs hk hK h
    obtain ⟨k, rfl⟩ : ∃ i, k = i + 1 := ⟨k - 1, by omega⟩
    show F55_1B _ _ _ _ _ _ _ _ _
    unfold F55_1B
    simp only [rdS_mk, rdI_mk, rdC_mk]
    rw [br_dec]
    refine ⟨fun _ => ?_, fun hge => by exfalso; omega⟩
    refine clr c88 ⟨_, rfl, ?_⟩
    rw [br_dec]
    refine ⟨fun hneg => ?_, fun hpos => ?_⟩
    · exfalso
      have := wrds_none (ix_none hneg)
      unfold bl at hm
      rw [this] at hm
      simp at hm
    · obtain ⟨i, h1, h2, h3, h4⟩ := ix_some (c := 32) (l := bl s) (by unfold bl; omega)
      have h1' : Lib.indexByte s.data.toList 32 = (i : Int) := h1
      have hlen := bl_len s
      rw [h1']
      have ew : words s = bs ((bl s).take i) :: words (bs ((bl s).drop (i + 1))) := by
        unfold words
        conv => lhs; rw [h4]
        rw [wrds_split _ _ h3, List.map_cons, bl_bs]
      have ew2 : (wrds ((bl s).drop (i + 1))).length = m + 1 := by
        have : (words s).length = (wrds (bl s)).length := by simp [words]
        rw [ew, List.length_cons] at this
        simp [words, bl_bs] at this
        omega
      have e0 : IntKind.wrap .i64 ((i : Int) + 0) = ((i : Nat) : Int) := by rw [wrap_i64 (by omega) (by omega)]; omega
      rw [e0]
      refine slT_hi (by omega) ?_
      refine ixS_to (p := j) rfl (by omega) ?_
      rw [Nat.mul_one]
      obtain ⟨p0, post, rfl⟩ : ∃ x r, post = x :: r := by
        cases post with
        | nil => simp at hq
        | cons x r => exact ⟨x, r, rfl⟩
      refine h.put 0 rfl (j := j) (by simp [wsV]; omega) fun w2 h2 => ?_
      have e1 : (wsV pre ++ p0 :: post).set j (.string (bs ((bl s).take i))) = wsV (pre ++ [bs ((bl s).take i)]) ++ post := by
        rw [List.set_append_right _ _ (by simp [wsV]; omega)]
        have : j - (wsV pre).length = 0 := by simp [wsV]; omega
        rw [this]
        simp [wsV]
      have h2 : Hs W (slP 9 1 (some a) n c ((wsV pre ++ p0 :: post).set j (.string (bs ((bl s).take i)))) :: N) w2 := h2
      rw [e1] at h2
      have e2 : IntKind.wrap .i64 ((i : Int) + ((ByteArray.mk #[32]).size : Int)) = ((i + 1 : Nat) : Int) := by
        show IntKind.wrap .i64 ((i : Int) + 1) = _
        rw [wrap_i64 (by omega) (by omega)]; omega
      rw [e2]
      refine slT_lo (by omega) ?_
      have e3 : IntKind.wrap .i64 ((j : Int) + 1) = ((j + 1 : Nat) : Int) := by rw [wrap_i64 (by omega) (by omega)]; omega
      rw [e3]
      refine ih (j + 1) k _ _ post w2 (by rw [bl_bs]; omega) (by omega) (by simp; omega) (by simpa using hq) hn ?_ (by omega) (fun s' w' hs' h' => ?_) h2
      · rw [← bl_len, bl_bs]; simp; omega
      · have := hK s' w' (by rw [ew, List.take_succ_cons, List.cons_append, ← hs']) (by
          rw [ew, List.take_succ_cons, List.drop_succ_cons]
          simpa using h')
        have e4 : j + 1 + m = j + (m + 1) := by omega
        rw [e4]
        exact this
theorem c55 {s : ByteArray} (hs : s.size ≤ 8000000) (h : Hs W N w) : Calls Tryz.prog 55 #[.string s, .string ⟨#[32]⟩, .int .i64 0, .int .i64 (-1)] w (rt fun v w' => ∃ a, v = .slice a (words s).length (words s).length ∧ Hs W (slP 9 1 a (words s).length (words s).length (wsV (words s)) :: N) w') := by
  refine F55_ok ?_
  unfold F55
  simp only [rdS_mk, rdI_mk]
  have e0 : ((-1 : Int) == 0) = false := rfl
  have e1 : ((ByteArray.mk #[32]).toList == (ByteArray.mk #[]).toList) = false := by rw [str_beq]; rfl
  have e2 : decide ((-1 : Int) < 0) = true := rfl
  rw [e0, br_false, e1, br_false, e2, br_true]
  refine clr c87 ⟨_, rfl, ?_⟩
  have hlen := wrds_length (bl s)
  have hc : (bl s).count 32 ≤ s.size := by rw [← bl_len]; exact List.count_le_length
  have hwl : (words s).length = (bl s).count 32 + 1 := by simp [words, hlen]
  obtain ⟨n, hn⟩ : ∃ n, n = (words s).length := ⟨_, rfl⟩
  have e3 : IntKind.wrap .i64 ((s.data.toList.count 32 : Int) + 1) = ((n : Nat) : Int) := by
    have : s.data.toList.count 32 = (bl s).count 32 := rfl
    rw [this, wrap_i64 (by omega) (by omega)]; omega
  rw [e3]
  unfold F55_2
  simp only [rdS_mk, rdI_mk]
  have e4 : IntKind.wrap .i64 ((s.size : Int) + 1) = ((s.size + 1 : Nat) : Int) := by rw [wrap_i64 (by omega) (by omega)]; omega
  have e5 : (if IntKind.wrap .i64 ((s.size : Int) + 1) < ((n : Nat) : Int) then IntKind.wrap .i64 ((s.size : Int) + 1) else ((n : Nat) : Int)) = ((n : Nat) : Int) := by
    rw [e4, if_neg (by omega)]
  rw [e5]
  refine h.make E77 (by omega) (by omega) (by omega) fun a w2 h2 _ => ?_
  have e6 : IntKind.wrap .i64 (((n : Nat) : Int) - 1) = ((n - 1 : Nat) : Int) := by rw [wrap_i64 (by omega) (by omega)]; omega
  rw [e6]
  obtain ⟨xs, hxs⟩ : ∃ xs, xs = (madeCells (Value.string ⟨#[]⟩).cells (n * 1)).toList := ⟨_, rfl⟩
  rw [← hxs] at h2
  have hxl : xs.length = n := by have := (h2.own 0 rfl).1; omega
  obtain ⟨ad, rfl⟩ := (h2.rd 0 rfl).some (by omega)
  refine ⟨n + 1, F55_loop (n := n) (c := n) (N := N) (W := W) (n - 1) 0 (n + 1) s [] xs w2 (by omega) (by omega) rfl (by omega) (by omega) (by omega) (by omega) (fun s' w3 hs' h3 => ?_) h2⟩
  intro _
  simp only [rdS_mk, rdC_mk, rdI_mk]
  have el : (words s).length - 1 = n - 1 := by omega
  obtain ⟨x0, hx0⟩ : ∃ x0, xs.drop (n - 1) = [x0] := by
    have : (xs.drop (n - 1)).length = 1 := by rw [List.length_drop]; omega
    exact List.length_eq_one_iff.1 this
  rw [hx0, List.nil_append] at h3
  have htl : ((words s).take (n - 1)).length = n - 1 := by rw [List.length_take]; omega
  refine ixS_to (p := n - 1) (by omega) (by omega) ?_
  rw [Nat.mul_one]
  refine h3.put 0 rfl (j := n - 1) (by simp [wsV]; omega) fun w4 h4 => ?_
  have e7 : (wsV ((words s).take (n - 1)) ++ [x0]).set (n - 1) (.string s') = wsV (words s) := by
    rw [List.set_append_right _ _ (by rw [wsV_length, htl]; exact Nat.le_refl _), wsV_length, htl, Nat.sub_self]
    conv => rhs; rw [hs']
    rw [wsV_append]
    rfl
  have h4 : Hs W (slP 9 1 (some ad) n n ((wsV ((words s).take (n - 1)) ++ [x0]).set (n - 1) (.string s')) :: N) w4 := h4
  rw [e7] at h4
  have e8 : IntKind.wrap .i64 (((0 + (n - 1) : Nat) : Int) + 1) = ((n : Nat) : Int) := by rw [wrap_i64 (by omega) (by omega)]; omega
  rw [e8]
  refine slS_hi (Nat.le_refl _) ?_
  intro _
  exact ⟨some ad, by rw [← hn], by rw [← hn]; exact h4⟩
theorem c32 {s : ByteArray} (hs : s.size ≤ 8000000) (h : Hs W N w) : Calls Tryz.prog 32 #[.string s, .string ⟨#[32]⟩] w (rt fun v w' => ∃ a, v = .slice a (words s).length (words s).length ∧ Hs W (slP 9 1 a (words s).length (words s).length (wsV (words s)) :: N) w') := by
  refine F32_ok ?_
  unfold F32
  simp only [rdS_mk]
  refine cl (c55 hs h) ?_
  rintro _ w2 ⟨a, rfl, h2⟩
  exact ⟨_, _, _, rfl, a, rfl, h2⟩
end
end Go.Proofs.YtilenpnpnbdndaaGreatDoor
