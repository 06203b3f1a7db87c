/-
  The document's table: a list in order.
-/
import Derived.Test.YtdagfdejjfobhaaTmG
import Derived.Test.YtdagfdejjfobhaaShTl
namespace Go.Proofs.Ytdagfdejjfobhaa
open Go Go.Sh Go.Tm
/-- where a timer goes -/
def atI (d : Du) (l : List Du) : Nat := (l.takeWhile fun x => decide (lt x d)).length
def ins (d : Du) (l : List Du) : List Du := l.take (atI d l) ++ d :: l.drop (atI d l)
def dueN (t : Int) (l : List Du) : Nat := (l.takeWhile fun x => decide (x.2 ≤ t)).length
theorem tw_len_le (p : Du → Bool) (l : List Du) : (l.takeWhile p).length ≤ l.length := (List.takeWhile_sublist p).length_le
theorem tw_lt {p : Du → Bool} : ∀ {l : List Du} {j : Nat} {d : Du}, j < (l.takeWhile p).length → l[j]? = some d → p d = true
  | [], j, d, h, _ => by simp at h
  | x :: l, j, d, h, hd => by
    by_cases hp : p x = true
    · rw [List.takeWhile_cons, if_pos hp] at h
      cases j with
      | zero => simp at hd; rw [← hd]; exact hp
      | succ j => exact tw_lt (l := l) (j := j) (by simpa using h) (by simpa using hd)
    · rw [List.takeWhile_cons, if_neg hp] at h
      simp at h
theorem tw_at {p : Du → Bool} : ∀ {l : List Du} {d : Du}, l[(l.takeWhile p).length]? = some d → p d = false
  | [], d, h => by simp at h
  | x :: l, d, h => by
    by_cases hp : p x = true
    · rw [List.takeWhile_cons, if_pos hp, List.length_cons, List.getElem?_cons_succ] at h
      exact tw_at h
    · rw [List.takeWhile_cons, if_neg hp] at h
      simp at h
      rw [← h]
      simpa using hp
def refL (rb : Nat) (a : Option Addr) (c : Nat) (l : List Du) (now : Int) : List HP := [pt rb (.cells #[.slice a l.length c, .int .i64 now] 46 (0, 0)), slP 30 2 a l.length c (duV l)]
/-- the document's table, behind parts P -/
def RF (W : World) (P L : List HP) (rb : Nat) (now : Int) (l : List Du) (w : World) : Prop := ∃ a c, Hs W (P ++ (refL rb a c l now ++ L)) w
theorem run_b0 (w : World) : Sem.run Try.prog (Instr.buildSlice 22 0 #[]) w = .ok (.slice (some ⟨w.heap.size, 0, none⟩) 0 0) (w.alloc (.cells #[] 30)) := by kernel_rfl
section
variable {W w : World} {L M P : List HP} {rb j : Nat} {a : Option Addr} {c : Nat} {l : List Du} {now : Int} {d : Du}
theorem c14 (t : Int) (w : World) : Calls Try.prog 14 #[.int .i64 t] w (rt (KR (.bool (decide (isI t))) w)) := by
  refine F14_ok ?_
  unfold F14
  simp only [rdI_mk]
  rw [br_dec]
  refine ⟨fun h => ⟨?_, rfl⟩, fun h => ⟨?_, rfl⟩⟩
  · congr 1; congr 1; unfold isI; exact propext ⟨fun g => ⟨h, g⟩, fun g => g.2⟩
  · congr 1; symm; simp only [decide_eq_false_iff_not]; unfold isI; omega
theorem c11 (t : Int) (w : World) : Calls Try.prog 11 #[.int .i64 t] w (rt (KR (.bool (decide (isT t))) w)) := by
  refine F11_ok ?_
  unfold F11
  simp only [rdI_mk]
  rw [br_dec]
  refine ⟨fun h => ⟨?_, rfl⟩, fun h => ⟨?_, rfl⟩⟩
  · congr 1; congr 1; unfold isT; exact propext ⟨fun g => ⟨h, g⟩, fun g => g.2⟩
  · congr 1; symm; simp only [decide_eq_false_iff_not]; unfold isT; omega
/-- a timer of a row -/
theorem du_rd {a : Option Addr} {l : List Du} (hr : Rd w a (duV l)) (hd : l[j]? = some d) : ∃ ad, a = some ad ∧ w.cell? (ad.add (j * 2 + 0)) = some (.int .i64 d.1) ∧ w.cell? (ad.add (j * 2 + 1)) = some (.int .i64 d.2) := by
  have hlt := (List.getElem?_eq_some_iff.1 hd).1
  obtain ⟨ad, rfl⟩ := hr.some (by rw [duV_length]; omega)
  exact ⟨ad, rfl, hr.at (du_at hd rfl), hr.at (du_at hd rfl)⟩
theorem t30 : flT Try.prog 30 [.int .i64, .int .i64] = true := by kernel_rfl
theorem mdu (d : Du) : mL [.int .i64, .int .i64] (du d) := ⟨⟨_, rfl⟩, ⟨_, rfl⟩, trivial⟩
theorem eq_du (d e : Du) : eqvs (du d) (du e) = decide (d = e) := by
  unfold du eqvs
  obtain ⟨d1, d2⟩ := d
  obtain ⟨e1, e2⟩ := e
  rw [Bool.eq_iff_iff]
  simp [eqv, Prod.ext_iff]
theorem c12 {a1 a2 : Option Addr} {k1 k2 : Nat} {l1 l2 : List Du} (h1 : Rd w a1 (duV l1)) (h2 : Rd w a2 (duV l2)) (hl : l1.length ≤ 1000000) :
    Calls Try.prog 12 #[.slice a1 l1.length k1, .slice a2 l2.length k2] w (rt fun v w' => v = .bool (decide (l1 = l2)) ∧ Same w w') := by
  refine F12_ok ?_
  unfold F12
  simp only [rdC_mk]
  rw [br_iff]
  refine ⟨fun h => ⟨?_, Fr.refl _⟩, fun h => ?_⟩
  · have : l1 ≠ l2 := fun e => by rw [e] at h; simp at h
    simp [this]
  have hlen : l1.length = l2.length := by
    have : ((l1.length : Int) != (l2.length : Int)) = false := h
    simp at this
    omega
  have loop : ∀ (K0 : World → Prop) (Kr : Value → World → Prop), (∀ w', l1 = l2 → Same w w' → K0 w') → (∀ w', l1 ≠ l2 → Same w w' → Kr (.bool false) w') → ∀ (i j : Nat) (w' : World) (k : Nat), j + i = l1.length → l1.take j = l2.take j → Same w w' → i < k →
      F12_1 K0 Kr k (.slice a1 l1.length k1) (.slice a2 l2.length k2) (.int .i64 (j : Int)) w' := by
    intro K0 Kr hK0 hKr i
    induction i with
    | zero =>
      intro j w' k hj ht s hk
      obtain ⟨k, rfl⟩ : ∃ j, k = j + 1 := ⟨k - 1, by omega⟩
      show F12_1B _ _ _ _ _ _ _
      unfold F12_1B
      simp only [rdC_mk, rdI_mk]
      rw [br_dec]
      refine ⟨fun h => by exfalso; omega, fun _ => hK0 w' ?_ s⟩
      rw [List.take_of_length_le (by omega), List.take_of_length_le (by omega)] at ht
      exact ht
    | succ i ih =>
      intro j w' k hj ht s hk
      obtain ⟨k, rfl⟩ : ∃ j, k = j + 1 := ⟨k - 1, by omega⟩
      show F12_1B _ _ _ _ _ _ _
      unfold F12_1B
      simp only [rdC_mk, rdI_mk]
      rw [br_dec]
      refine ⟨fun _ => ?_, fun h => by exfalso; omega⟩
      obtain ⟨d, hd⟩ : ∃ d, l1[j]? = some d := ⟨l1[j]'(by omega), by simp⟩
      obtain ⟨e, he⟩ : ∃ e, l2[j]? = some e := ⟨l2[j]'(by omega), by simp⟩
      have s1 : Same w w'.drew := s.drew
      obtain ⟨d1, rfl, p1, p2⟩ := du_rd (h1.fr s1 fun _ _ x => x) hd
      obtain ⟨e1, rfl, q1, q2⟩ := du_rd (h2.fr s1 fun _ _ x => x) he
      show drw w' _
      unfold drw
      refine ixS_to (p := j) rfl (by omega) ?_
      simp only [add_add]
      refine ldI_c p1 (ldI_c p2 ?_)
      refine ixS_to (p := j) rfl (by omega) ?_
      simp only [add_add]
      refine ldI_c q1 (ldI_c q2 ?_)
      have key := neq_flat (P := Try.prog) (w := w'.drew) (t := 30) (x := .tmp 20) (y := .tmp 24) (vs := du d) (us := du e) t30 (mdu d) (mdu e)
      rw [eq_du] at key
      refine ⟨_, _, key, ?_⟩
      rw [br_iff]
      refine ⟨fun hn => ?_, fun hn => ?_⟩
      · have hn : d ≠ e := by simpa using hn
        refine hKr _ (fun e' => hn ?_) s1
        rw [e', he] at hd
        exact (Option.some.inj hd).symm
      · have hn : d = e := by simpa using hn
        have e3 : IntKind.wrap .i64 ((j : Int) + 1) = ((j + 1 : Nat) : Int) := by rw [wrap_i64 (by omega) (by omega)]; omega
        rw [e3]
        refine ih (j + 1) _ k (by omega) ?_ s1 (by omega)
        rw [List.take_add_one, List.take_add_one, ht, hd, he, hn]
  refine ⟨l1.length + 1, loop _ _ (fun w' he s => ?_) (fun w' he s => ?_) l1.length 0 w _ (Nat.zero_add _) rfl (Fr.refl _) (by omega)⟩
  · exact fun _ => ⟨by simp [he], s⟩
  · intro _g
    simp only [rdB_mk]
    exact ⟨by simp [he], s⟩
theorem c34 (t : RF W [] L rb now l w) : Calls Try.prog 34 #[.pointer (some ⟨rb, 0, none⟩)] w (rt fun v w' => RF W [] L rb now l w' ∧ v = .tuple #[.agg #[.int .i64 (l.head?.getD (0, 0)).1, .int .i64 (l.head?.getD (0, 0)).2], .bool (!l.isEmpty)]) := by
  refine F34_ok ?_
  unfold F34
  simp only [rdP_mk]
  obtain ⟨a, c, hs⟩ := t
  refine hs.alc fun b2 w1 h1 => ?_
  have h1 : Hs W (dP b2 (0, 0) :: (refL rb a c l now ++ L)) w1 := h1
  simp only [nn_some, add_mk]
  refine h1.ldC 1 rfl rfl ?_
  have fin : ∀ (d : Du) (B : Bool), d = l.head?.getD (0, 0) → B = !l.isEmpty → 
      stc ⟨b2, 0 + 0, none⟩ (.int .i64 d.1) w1 fun w16 => stc ⟨b2, 0 + 1, none⟩ (.int .i64 d.2) w16 fun w17 => ldI .i64 ⟨b2, 0 + 0, none⟩ w17 fun n18 => ldI .i64 ⟨b2, 0 + 1, none⟩ w17 fun n19 =>
        RF W [] L rb now l w17 ∧ Value.tuple #[.agg #[.int .i64 n18, .int .i64 n19], .bool B] = .tuple #[.agg #[.int .i64 (l.head?.getD (0, 0)).1, .int .i64 (l.head?.getD (0, 0)).2], .bool (!l.isEmpty)] := by
    intro d B hd hB
    subst hd; subst hB
    refine h1.stc 0 rfl (by simp) fun w3 h4 => h4.stc 0 rfl (by simp) fun w4 h5 => h5.ldI 0 rfl rfl (h5.ldI 0 rfl rfl ⟨⟨a, c, h5.drop⟩, rfl⟩)
  cases l with
  | nil =>
    rw [show (((([] : List Du).length : Nat) : Int) == 0) = true from rfl, br_true]
    exact fin (0, 0) false rfl rfl
  | cons d r =>
    rw [show ((((d :: r).length : Nat) : Int) == 0) = false by simp; omega, br_false]
    refine h1.ldC 1 rfl rfl ?_
    obtain ⟨ad, had, p1, p2⟩ := du_rd (j := 0) (d := d) (h1.rd 2 rfl) rfl
    rw [had]
    refine ixS_to (p := 0) rfl (by simp) ?_
    simp only [add_add]
    exact ldI_c p1 (ldI_c p2 (fin d true rfl rfl))
theorem c35 (t : RF W P L rb now l w) (hl : l.length ≤ 1000000) (id : Int) : Calls Try.prog 35 #[.pointer (some ⟨rb, 0, none⟩), .int .i64 id] w (rt (KR (.tuple #[.int .i64 ((mval l id).getD 0), .bool (mval l id).isSome]) w)) := by
  refine F35_ok ?_
  unfold F35
  simp only [rdP_mk, rdI_mk]
  obtain ⟨a, c, hs⟩ := t
  have hs2 := Hs.flip.1 hs
  have loop : ∀ (K0 : World → Prop) (Kr : Value → Value → World → Prop), (mval l id = none → K0 w) → (∀ t, mval l id = some t → Kr (.int .i64 t) (.bool true) w) → ∀ (i j : Nat) (k : Nat), j + i = l.length → mval (l.drop j) id = mval l id → i < k →
      F35_1 K0 Kr k (.pointer (some ⟨rb, 0, none⟩)) (.int .i64 id) (.int .i64 (j : Int)) w := by
    intro K0 Kr hK0 hKr i
    induction i with
    | zero =>
      intro j k hj ht hk
      obtain ⟨k, rfl⟩ : ∃ j, k = j + 1 := ⟨k - 1, by omega⟩
      show F35_1B _ _ _ _ _ _ _
      unfold F35_1B
      simp only [rdP_mk, rdI_mk, nn_some, add_mk]
      refine hs2.ldC 0 rfl rfl ?_
      rw [br_dec]
      refine ⟨fun h => by exfalso; omega, fun _ => hK0 ?_⟩
      rw [← ht, List.drop_of_length_le (by omega)]
      rfl
    | succ i ih =>
      intro j k hj ht hk
      obtain ⟨k, rfl⟩ : ∃ j, k = j + 1 := ⟨k - 1, by omega⟩
      show F35_1B _ _ _ _ _ _ _
      unfold F35_1B
      simp only [rdP_mk, rdI_mk, nn_some, add_mk]
      refine hs2.ldC 0 rfl rfl ?_
      rw [br_dec]
      refine ⟨fun _ => ?_, fun h => by exfalso; omega⟩
      obtain ⟨d, hd⟩ : ∃ d, l[j]? = some d := ⟨l[j]'(by omega), by simp⟩
      obtain ⟨ad, had, p1, p2⟩ := du_rd (hs2.rd 1 rfl) hd
      refine hs2.ldC 0 rfl rfl ?_
      rw [had]
      refine ixS_to (p := j) rfl (by omega) ?_
      simp only [add_add]
      refine ldI_c p1 ?_
      have hdr : l.drop j = d :: l.drop (j + 1) := by rw [List.drop_eq_getElem_cons (by omega), (List.getElem?_eq_some_iff.1 hd).2]
      rw [hdr] at ht
      simp only [mval] at ht
      rw [br_iff]
      refine ⟨fun he => ?_, fun he => ?_⟩
      · have he : d.1 = id := by simpa using he
        rw [if_pos he.symm] at ht
        refine hs2.ldC 0 rfl rfl ?_
        rw [had]
        refine ixS_to (p := j) rfl (by omega) ?_
        simp only [add_add]
        exact ldI_c p2 (hKr _ ht.symm)
      · have he : d.1 ≠ id := by simpa using he
        rw [if_neg fun e => he e.symm] at ht
        have e3 : IntKind.wrap .i64 ((j : Int) + 1) = ((j + 1 : Nat) : Int) := by rw [wrap_i64 (by omega) (by omega)]; omega
        rw [e3]
        exact ih (j + 1) k (by omega) ht (by omega)
  refine ⟨l.length + 1, loop _ _ (fun h => ?_) (fun t h => ?_) l.length 0 _ (Nat.zero_add _) rfl (by omega)⟩
  · exact fun _ => ⟨by rw [h]; rfl, rfl⟩
  · intro _g
    simp only [rdI_mk, rdB_mk]
    exact ⟨by rw [h]; rfl, rfl⟩
end
end Go.Proofs.Ytdagfdejjfobhaa
