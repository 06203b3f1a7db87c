/-
  TimersOnce, whole; a table that nobody made.
-/
import Derived.Test.YtdagfdejjfobhaaTmO
namespace Go.Proofs.Ytdagfdejjfobhaa
open Go Go.Sh Go.Tm
theorem iF_made (n : Nat) : (madeCells (Value.int .i64 0).cells (n * 1)).toList = iF n fun _ => 0 := by
  apply List.ext_getElem?
  intro j
  by_cases hj : j < n
  · rw [iF_at hj]
    simp [madeCells, Value.cells, Nat.mod_one, hj]
  · rw [List.getElem?_eq_none (by simp [madeCells]; omega), List.getElem?_eq_none (by rw [iF_length]; omega)]
section
variable {W w : World} {L M P : List HP} {tb j : Nat} {last : Int} {l l' : List Du} {d : Du} {o : R38} {os : List R38} {sa : Option Addr} {sc : Nat} {ra : Addr} {rc : Nat} {g : Nat → Int}
theorem c4_6 {K0 : Value → Value → Value → World → Prop} {x0 : Value} (hx0 : ∃ a l c, x0 = .slice a l c)
    (hK : ∀ w', TB W [] (nP ra rc (fun _ => -1) :: []) tb 0 [] w' → K0 x0 (.pointer (some ⟨tb, 0, none⟩)) (.slice (some ra) 4096 rc) w') :
    ∀ (i j : Nat) (w : World) (k : Nat), j + i = 4096 → TB W [] (nP ra rc (fun p => if p < j then -1 else 0) :: []) tb 0 [] w → i < k →
      F4_6 K0 k x0 (.pointer (some ⟨tb, 0, none⟩)) (.slice (some ra) 4096 rc) (.int .i64 ((4096 : Nat) : Int)) (.int .i64 (j : Int)) w := by
  obtain ⟨xa, xl, xc, rfl⟩ := hx0
  intro i
  induction i with
  | zero =>
    intro j w k hj t hk
    obtain ⟨k, rfl⟩ : ∃ j, k = j + 1 := ⟨k - 1, by omega⟩
    show F4_6B _ _ _ _ _ _ _ _
    unfold F4_6B
    simp only [rdP_mk, rdI_mk, rdC_mk]
    rw [br_dec]
    refine ⟨fun h => by exfalso; omega, fun _ => hK w ?_⟩
    have e : iF 4096 (fun p => if p < j then -1 else 0) = iF 4096 fun _ => -1 := iF_congr fun k hk => if_pos (by omega)
    have t : TB W [] (slP 3 1 (some ra) 4096 rc (iF 4096 (fun p => if p < j then -1 else 0)) :: []) tb 0 [] w := t
    rw [e] at t
    exact t
  | succ i ih =>
    intro j w k hj t hk
    obtain ⟨k, rfl⟩ : ∃ j, k = j + 1 := ⟨k - 1, by omega⟩
    show F4_6B _ _ _ _ _ _ _ _
    unfold F4_6B
    simp only [rdP_mk, rdI_mk, rdC_mk]
    rw [br_dec]
    refine ⟨fun _ => ?_, fun h => by exfalso; omega⟩
    refine ixS_to (p := j) rfl (by omega) ?_
    rw [Nat.mul_one]
    refine TB.note t (k := j) (by omega) fun w1 t1 => ?_
    have e1 : IntKind.wrap .i64 ((j : Int) + 1) = ((j + 1 : Nat) : Int) := by rw [wrap_i64 (by omega) (by omega)]; omega
    rw [e1]
    have e : iF 4096 (fun q => if q = j then -1 else if q < j then -1 else 0) = iF 4096 fun p => if p < j + 1 then -1 else 0 := iF_congr fun k hk => by
      by_cases h1 : k = j
      · rw [if_pos h1, if_pos (by omega)]
      · by_cases h2 : k < j
        · rw [if_neg h1, if_pos h2, if_pos (by omega)]
        · rw [if_neg h1, if_neg h2, if_neg (by omega)]
    have t1 : TB W [] (slP 3 1 (some ra) 4096 rc (iF 4096 (fun q => if q = j then -1 else if q < j then -1 else 0)) :: []) tb 0 [] w1 := t1
    rw [e] at t1
    exact ih (j + 1) w1 k (by omega) t1 (by omega)
theorem c4_4 {K7 : Value → Value → World → Prop} (t : TB W [] (nP ra rc (gOf l) :: L) tb last l w) (hK : K7 (.pointer (some ⟨tb, 0, none⟩)) (.int .i64 (cnt l 4096 : Int)) w) :
    ∀ (i j : Nat) (k : Nat), j + i = 4096 → i < k → F4_4 K7 k (.pointer (some ⟨tb, 0, none⟩)) (.slice (some ra) 4096 rc) (.int .i64 (cnt l j : Int)) (.int .i64 ((4096 : Nat) : Int)) (.int .i64 (j : Int)) w := by
  intro i
  induction i with
  | zero =>
    intro j k hj hk
    obtain ⟨k, rfl⟩ : ∃ j, k = j + 1 := ⟨k - 1, by omega⟩
    show F4_4B _ _ _ _ _ _ _ _
    unfold F4_4B
    simp only [rdP_mk, rdI_mk, rdC_mk]
    rw [br_dec]
    refine ⟨fun h => by exfalso; omega, fun _ => ?_⟩
    have : j = 4096 := by omega
    rw [this]; exact hK
  | succ i ih =>
    intro j k hj hk
    obtain ⟨k, rfl⟩ : ∃ j, k = j + 1 := ⟨k - 1, by omega⟩
    show F4_4B _ _ _ _ _ _ _ _
    unfold F4_4B
    simp only [rdP_mk, rdI_mk, rdC_mk]
    rw [br_dec]
    refine ⟨fun _ => ?_, fun h => by exfalso; omega⟩
    refine ixS_to (p := j) rfl (by omega) ?_
    rw [Nat.mul_one]
    refine ldI_c (TB.noted t (k := j) (by omega)) ?_
    have e1 : IntKind.wrap .i64 ((j : Int) + 1) = ((j + 1 : Nat) : Int) := by rw [wrap_i64 (by omega) (by omega)]; omega
    have hc : cnt l j ≤ j := by
      unfold cnt
      have := List.length_filter_le (fun k => decide (gOf l k ≥ 0)) (List.range j)
      simpa using this
    have hs := cnt_succ l j
    have go := ih (j + 1) k (by omega) (by omega)
    rw [e1, br_dec]
    refine ⟨fun h => ?_, fun h => ?_⟩
    · rw [if_pos h] at hs
      have e2 : IntKind.wrap .i64 ((cnt l j : Int) + 1) = (cnt l (j + 1) : Int) := by rw [wrap_i64 (by omega) (by omega), hs]; omega
      rw [e2]
      exact go
    · rw [if_neg h, Nat.add_zero] at hs
      rw [hs] at go
      exact go
theorem c4 (hr : Rd W sa (os.flatMap R38.l)) (hl : os.length ≤ 9223372036854775807) : Calls Try.prog 4 #[.slice sa os.length sc] W (rt fun v w' => v = .bool true ∧ Same W w') := by
  refine F4_ok ?_
  unfold F4
  simp only [rdC_mk]
  refine cl (c7 (Hs.start W)) ?_
  rintro _ w1 ⟨tb, rfl, la, lc, m, n, h, f, ti, hs⟩
  have hs : Hs W (tabL tb la lc m n h 0 f ++ []) w1 := hs
  refine ⟨_, rfl, ?_⟩
  simp only [Option.isNone_some]
  rw [br_false]
  refine cl (c8 w1) ?_
  rintro _ w2 ⟨rfl, s2⟩
  refine ⟨_, rfl, ?_⟩
  rw [Bool.not_true, br_false]
  have h2 := hs.same s2
  unfold F4_7
  simp only [rdC_mk, rdP_mk]
  refine h2.make E23 (kl := .i64) (kc := .i64) (n := 4096) (by omega) (by omega) (by omega) fun sa' w3 h3 _ => ?_
  rw [iF_made] at h3
  have hr3 := h3.rd 0 rfl
  obtain ⟨ra, hra⟩ := hr3.some (by rw [iF_length]; omega)
  rw [hra] at h3 ⊢
  have h4 : Hs W (tabL tb la lc m n h 0 f ++ (nP ra 4096 (fun _ => 0) :: [])) w3 := h3.perm List.perm_middle.symm
  refine ⟨4096 + 1, c4_6 ⟨_, _, _, rfl⟩ (fun w4 t4 => ?_) 4096 0 w3 _ rfl ⟨la, lc, m, n, h, f, ti, h4⟩ (by omega)⟩
  intro _g
  simp only [rdC_mk, rdP_mk]
  have t5 : TB W [] (nP ra 4096 (gOf []) :: []) tb 0 [] w4 := t4
  refine ⟨os.length + 1, c4_5 hr hl (fun w5 last l L hla t6 => ?_) os.length 0 w4 _ 0 [] (Nat.zero_add _) (by omega) t5 (by omega)⟩
  intro _g
  simp only [rdC_mk, rdP_mk]
  refine ⟨4096 + 1, c4_4 t6 ?_ 4096 0 _ rfl (by omega)⟩
  intro _g
  simp only [rdI_mk, rdP_mk]
  rw [cnt_all t6.li]
  have hdm := dueN_max t6.li
  refine cl (c10 t6 1099511627776) ?_
  rintro _ w6 (⟨hn, _⟩ | ⟨_, _, a, c, rfl, t7⟩)
  · exact absurd ⟨by decide, hla⟩ hn
  refine ⟨_, _, _, _, rfl, ?_⟩
  rw [show ((0 : Int) == 0) = true from rfl, br_true]
  rw [hdm, List.take_length] at t7 ⊢
  rw [beq_self_eq_true, br_true]
  rw [List.drop_length] at t7
  refine clr (c16 t7) ⟨_, rfl, ?_⟩
  simp only [rdB_mk]
  exact fun _ => ⟨by first | rfl | trivial | decide, t7.old⟩
/-! nobody's table -/
def NB (w : World) (p : Option Addr) : Prop := p = none ∨ ∃ b, p = some ⟨b, 0, none⟩ ∧ w.heap[b]? = some (.cells #[.slice none 0 0, .nilFunc, .map none, .int .i64 0] 53 (0, 0))
theorem NB.same {w' : World} {p : Option Addr} (h : NB w p) (s : Same w w') : NB w' p := by
  rcases h with rfl | ⟨b, rfl, hb⟩
  · exact .inl rfl
  · exact .inr ⟨b, rfl, s.blk hb fun x => x⟩
variable {p : Option Addr}
theorem n27 (h : NB w p) : Calls Try.prog 27 #[.pointer p] w (rt (KR (.bool false) w)) := by
  refine F27_ok ?_
  unfold F27
  simp only [rdP_mk]
  rcases h with rfl | ⟨b, rfl, hb⟩
  · rw [show (!(Option.isNone (none : Option Addr))) = false from rfl, br_false]
    exact ⟨rfl, rfl⟩
  · rw [show (!(Option.isNone (some (Addr.mk b 0 none)))) = true from rfl, br_true]
    simp only [nn_some, add_mk]
    exact ldM_at hb rfl ⟨rfl, rfl⟩
theorem n22 (h : NB w p) (id : Int) : Calls Try.prog 22 #[.pointer p, .int .i64 id] w (rt (KR (.int .i64 4) w)) := by
  refine F22_ok ?_
  unfold F22
  simp only [rdP_mk, rdI_mk]
  refine clr (n27 h) ⟨_, rfl, ?_⟩
  rw [Bool.not_false, br_true]
  exact ⟨rfl, rfl⟩
theorem n15 (h : NB w p) (id : Int) : Calls Try.prog 15 #[.pointer p, .int .i64 id] w (rt (KR (.tuple #[.bool false, .int .i64 4]) w)) := by
  refine F15_ok ?_
  unfold F15
  simp only [rdP_mk, rdI_mk]
  refine clr (n22 h id) ⟨_, rfl, ?_⟩
  rw [show ((4 : Int) != 0) = true from rfl, br_true]
  exact ⟨rfl, rfl⟩
theorem n10 (h : NB w p) (t : Int) : Calls Try.prog 10 #[.pointer p, .int .i64 t] w (rt (KR (.tuple #[.slice none 0 0, .int .i64 4]) w)) := by
  refine F10_ok ?_
  unfold F10
  simp only [rdP_mk, rdI_mk]
  refine clr (n27 h) ⟨_, rfl, ?_⟩
  rw [Bool.not_false, br_true]
  exact ⟨rfl, rfl⟩
theorem n18 (h : NB w p) (id : Int) : Calls Try.prog 18 #[.pointer p, .int .i64 id] w (rt (KR (.tuple #[.int .i64 0, .bool false]) w)) := by
  refine F18_ok ?_
  unfold F18
  simp only [rdP_mk, rdI_mk]
  refine clr (n27 h) ⟨_, rfl, ?_⟩
  rw [Bool.not_false, br_true]
  exact ⟨rfl, rfl⟩
theorem n19 (h : NB w p) : Calls Try.prog 19 #[.pointer p] w (rt fun v w' => v = .tuple #[.agg #[.int .i64 0, .int .i64 0], .bool false] ∧ Same w w') := by
  refine F19_ok ?_
  unfold F19
  simp only [rdP_mk]
  refine (Hs.start w).alc fun b2 w1 h1 => ?_
  refine clr (n27 (h.same h1.old)) ⟨_, rfl, ?_⟩
  rw [Bool.not_false, br_true]
  simp only [add_mk]
  refine h1.stc 0 rfl (by simp) fun w2 h2 => h2.stc 0 rfl (by simp) fun w3 h3 => h3.ldI 0 rfl rfl (h3.ldI 0 rfl rfl ?_)
  exact ⟨rfl, h3.old⟩
theorem n9 (h : NB w p) (id t : Int) : Calls Try.prog 9 #[.pointer p, .int .i64 id, .int .i64 t] w (rt (KR (.int .i64 4) w)) := by
  refine F9_ok ?_
  unfold F9
  simp only [rdP_mk, rdI_mk]
  refine clr (n22 h id) ⟨_, rfl, ?_⟩
  rw [show ((4 : Int) != 0) = true from rfl, br_true]
  exact ⟨rfl, rfl⟩
theorem n16 (h : NB w p) : Calls Try.prog 16 #[.pointer p] w (rt (KR (.int .i64 0) w)) := by
  refine F16_ok ?_
  unfold F16
  simp only [rdP_mk]
  refine clr (n27 h) ⟨_, rfl, ?_⟩
  rw [Bool.not_false, br_true]
  exact ⟨rfl, rfl⟩
theorem n13 (h : NB w p) : Calls Try.prog 13 #[.pointer p] w (rt (KR (.slice none 0 0) w)) := by
  refine F13_ok ?_
  unfold F13
  simp only [rdP_mk]
  refine clr (n27 h) ⟨_, rfl, ?_⟩
  rw [Bool.not_false, br_true]
  exact ⟨rfl, rfl⟩
theorem c6_1 {K0 : World → Prop} {Kr : Value → World → Prop} {b2 b4 b6 : Nat} (hK : ∀ w', Same W w' → K0 w') : ∀ (i j : Nat) (w : World) (k : Nat), j + i = 2 →
    Hs W [pt b6 (.cells #[.pointer none, .pointer (some ⟨b4, 0, none⟩)] 24 (0, 0)), pt b4 (.cells #[.slice none 0 0, .nilFunc, .map none, .int .i64 0] 53 (0, 0)), pt b2 (.cells o.c 39 (0, 0))] w → i < k →
      F6_1 K0 Kr k (.pointer (some ⟨b2, 0, none⟩)) (.slice (some ⟨b6, 0, none⟩) 2 2) (.int .i64 (2 : Int)) (.int .i64 (j : Int)) w := by
  intro i
  induction i with
  | zero =>
    intro j w k hj h hk
    obtain ⟨k, rfl⟩ : ∃ j, k = j + 1 := ⟨k - 1, by omega⟩
    show F6_1B _ _ _ _ _ _ _ _
    unfold F6_1B
    simp only [rdI_mk, rdC_mk, rdA_mk]
    rw [br_dec]
    exact ⟨fun h => by exfalso; omega, fun _ => hK w h.old⟩
  | succ i ih =>
    intro j w k hj h hk
    obtain ⟨k, rfl⟩ : ∃ j, k = j + 1 := ⟨k - 1, by omega⟩
    show F6_1B _ _ _ _ _ _ _ _
    unfold F6_1B
    simp only [rdI_mk, rdC_mk, rdA_mk, add_mk]
    rw [br_dec]
    refine ⟨fun _ => ?_, fun h => by exfalso; omega⟩
    refine ixS_to (p := j) rfl (by omega) ?_
    simp only [add_mk]
    have hp : ∃ p, (#[Value.pointer none, .pointer (some ⟨b4, 0, none⟩)] : Array Value)[0 + j * 1]? = some (.pointer p) ∧ NB w p := by
      match j, hj with
      | 0, _ => exact ⟨none, rfl, .inl rfl⟩
      | 1, _ => exact ⟨_, rfl, .inr ⟨b4, rfl, h.at 1 rfl⟩⟩
      | j + 2, hj => omega
    obtain ⟨p, hp, nb⟩ := hp
    refine h.ldP 0 rfl hp (h.ldI 2 rfl rfl ?_)
    refine clr (n15 nb _) ⟨_, _, rfl, h.ldI 2 rfl rfl ?_⟩
    refine clr (n10 nb _) ⟨_, _, _, _, rfl, h.ldI 2 rfl rfl ?_⟩
    refine clr (n18 nb _) ⟨_, _, rfl, ?_⟩
    refine cl (n19 nb) ?_
    rintro _ w1 ⟨rfl, s1⟩
    refine ⟨_, _, _, rfl, ?_⟩
    have h1 := h.same s1
    refine h1.alc fun b27 w2 h2 => h2.stc 0 rfl (by simp) fun w3 h3 => h3.stc 0 rfl (by simp) fun w4 h4 => ?_
    have h4 : Hs W [dP b27 (0, 0), pt b6 (.cells #[.pointer none, .pointer (some ⟨b4, 0, none⟩)] 24 (0, 0)), pt b4 (.cells #[.slice none 0 0, .nilFunc, .map none, .int .i64 0] 53 (0, 0)), pt b2 (.cells o.c 39 (0, 0))] w4 := h4
    have nb4 : NB w4 p := by
      rcases nb with rfl | ⟨b, rfl, hb⟩
      · exact .inl rfl
      · refine .inr ⟨b4, ?_, h4.at 2 rfl⟩
        match j, hj, hp with
        | 0, _, hp => cases hp
        | 1, _, hp => simpa using hp.symm
        | j + 2, hj, _ => omega
    refine h4.ldI 3 rfl rfl (h4.ldI 3 rfl rfl ?_)
    refine clr (n9 nb4 _ _) ⟨_, rfl, ?_⟩
    rw [show ((4 : Int) != 4) = false from rfl, br_false, br_false, br_false, br_false, br_false]
    refine clr (n16 nb4) ⟨_, rfl, ?_⟩
    refine clr (n13 nb4) ⟨_, _, _, rfl, ?_⟩
    rw [show (IntKind.wrap .i64 (0 + ((0 : Nat) : Int)) != 0) = false from rfl, br_false]
    have e1 : IntKind.wrap .i64 ((j : Int) + 1) = ((j + 1 : Nat) : Int) := by rw [wrap_i64 (by omega) (by omega)]; omega
    rw [e1]
    exact ih (j + 1) w4 k (by omega) h4.drop (by omega)
theorem c6 (o : R38) (W : World) : Calls Try.prog 6 #[o.v] W (rt fun v w' => v = .bool true ∧ Same W w') := by
  refine F6_ok ?_
  unfold F6
  refine exR38_of o ⟨rfl, ?_⟩
  refine (Hs.start W).alc fun b2 w1 h1 => h1.alc fun b4 w2 h2 => h2.alc fun b6 w3 h3 => ?_
  refine ⟨3, c6_1 (fun w4 s4 => ?_) 2 0 w3 _ rfl h3 (by omega)⟩
  intro _g
  refine cl (c8 w4) ?_
  rintro _ w5 ⟨rfl, s5⟩
  exact ⟨_, rfl, rfl, s4.trans s5 fun _ _ x => x⟩
end
end Go.Proofs.Ytdagfdejjfobhaa
