/- Own text: part of the shallow reading of the code and of the contracts that are proved over it. -/
import Derived.Test.YtccffjlahpfdaaaDoorIbN
namespace Go.Proofs.YtccffjlahpfdaaaDoor
open Go Go.Sh Go.Sp
section
variable {W w : World} {L : List HP} {bb rr : Nat} {D : BD} {R : RD} {x : BX}
/-! how many came -/
theorem ins_len (d : Nat) : ∀ S : List Nat, (ins d S).length ≤ S.length + 1
  | [] => by simp [ins]
  | e :: S => by
    unfold ins
    split
    · simp
    · split
      · simp
      · have := ins_len d S
        rw [List.length_cons, List.length_cons]; omega
structure Many (n : Nat) (x : BX) : Prop where
  s : x.S.length ≤ n
  p0 : 0 ≤ x.pk
  p1 : x.pk ≤ n
theorem Many.mono {n m : Nat} (h : Many n x) (hnm : n ≤ m) : Many m x := ⟨Nat.le_trans h.s hnm, h.p0, by have := h.p1; omega⟩
theorem many_act {n : Nat} (hn : n ≤ 100000) (h : Many n x) (o : OB) : Many (n + 1) (x.act o) := by
  have hs := h.s
  have h0 := h.p0
  have h1 := h.p1
  unfold BX.act
  split
  · unfold BX.come
    split
    · exact h.mono (by omega)
    · refine ⟨?_, h0, by simp only; omega⟩
      show (addS x.cum x.S (oneOf x o)).length ≤ n + 1
      unfold addS
      split
      · unfold shift
        rw [List.length_map]
        exact Nat.le_trans (List.length_filter_le _ _) (by omega)
      · split
        · exact Nat.le_trans (ins_len _ _) (by omega)
        · omega
  · split
    · refine ⟨?_, h0, by simp only [BX.drop]; omega⟩
      show (if oneOf x o ∈ x.fx then x.S else del (sd x.cum (oneOf x o)).toNat x.S).length ≤ n + 1
      split
      · omega
      · unfold del
        exact Nat.le_trans (List.length_filter_le _ _) (by omega)
    · split
      · exact ⟨by simp only [BX.fix]; omega, h0, by simp only [BX.fix]; omega⟩
      · split
        · split
          · have e : IntKind.wrap .i64 (x.pk + 1) = x.pk + 1 := wrap_i64 (by omega) (by omega)
            exact ⟨by simp only [BX.heard]; omega, by simp only [BX.heard]; rw [e]; omega, by simp only [BX.heard]; rw [e]; omega⟩
          · exact h.mono (by omega)
        · split
          · split
            · exact ⟨by simp only [BX.rep]; omega, by simp [BX.rep], by simp only [BX.rep]; omega⟩
            · exact h.mono (by omega)
          · exact h.mono (by omega)
theorem many_run : ∀ (qs : List OpB) {n : Nat} {x : BX}, n + qs.length ≤ 100000 → Many n x → Many (n + qs.length) (runX x qs)
  | [], n, x, _, h => h
  | q :: qs, n, x, hn, h => by
    rw [List.length_cons] at hn ⊢
    have h1 := many_run qs (n := n + 1) (x := x.act q.o) (by omega) (many_act (by omega) h q.o)
    have e : n + (qs.length + 1) = n + 1 + qs.length := by omega
    rw [e]; exact h1
theorem many_x0 (first delay : Int) (nr : Bool) : Many 0 (x0 first delay nr) := ⟨by simp [x0], by simp [x0], by simp [x0]⟩
theorem many_200 (first delay : Int) (nr : Bool) (qs : List OpB) : Many 200 (runX (x0 first delay nr) (qs.take 200)) := by
  have h := many_run (qs.take 200) (n := 0) (by rw [List.length_take]; omega) (many_x0 first delay nr)
  exact h.mono (by rw [List.length_take]; omega)
/-! of two packets in a row -/
theorem c4 {sa : Option Addr} {sc : Nat} {qs : List OpB} (ht : TB w) (hr : Rd w sa (qs.flatMap opB)) (hq : ∀ q ∈ qs, OpOk w q) (first delay : Int) (nr : Bool) (now : Int) :
    Calls Tryd.prog 4 #[.int .u32 first, .int .i64 delay, .bool nr, .slice sa qs.length sc, .int .i64 now] w (rt fun v w' => v = .bool true ∧ Same w w') := by
  refine F4_ok ?_
  unfold F4
  simp only [rdI_mk, rdB_mk, rdC_mk]
  refine cl (c8 (L := []) ht hr hq (Hs.start w) first delay nr) ?_
  rintro _ w1 (⟨hN, rfl, h1⟩ | ⟨hN, bb, D, rr, R, rfl, h1, o1⟩)
  · refine ⟨_, _, _, rfl, ?_⟩
    rw [Bool.not_true, br_false, Option.isNone_none, br_true]
    refine cl (c19 (Hs.tb h1 ht)) ?_
    rintro _ w2 ⟨rfl, s2⟩
    exact ⟨_, rfl, rfl, (h1.same s2).1⟩
  · refine ⟨_, _, _, rfl, ?_⟩
    rw [Bool.not_true, br_false, Option.isNone_some, br_false]
    have hm := many_200 first delay nr qs
    generalize runX (x0 first delay nr) (qs.take 200) = x at h1 o1 hm
    have eI : ∀ x : Int, (x == x) = true := fun x => by simp
    refine cl (c21 h1 ⟨o1.d0, o1.d1⟩ now) ?_
    rintro _ w2 ⟨rfl, h2⟩
    refine ⟨_, rfl, ?_⟩
    by_cases hok : 0 ≤ now ∧ now ≤ 1099511627776
    · rw [if_pos hok] at h2 ⊢
      have o2 := heard_ok o1 now
      refine cl (c21 h2 ⟨o2.d0, o2.d1⟩ now) ?_
      rintro _ w3 ⟨rfl, h3⟩
      rw [if_pos hok] at h3 ⊢
      refine ⟨_, rfl, clr (c22 h3) ⟨_, _, rfl, ?_⟩⟩
      have hp0 := hm.p0
      have hp1 := hm.p1
      have e1 : IntKind.wrap .i64 (x.pk + 1) = x.pk + 1 := wrap_i64 (by omega) (by omega)
      have e2 : IntKind.wrap .i64 (x.pk + 1 + 1) = x.pk + 1 + 1 := wrap_i64 (by omega) (by omega)
      have ed : ((x.heard now).heard now).due = now := by
        show (if 0 < x.dup.length ∨ IntKind.wrap .i64 (IntKind.wrap .i64 (x.pk + 1) + 1) > 1 ∨ x.made = false then now else now + x.delay) = now
        rw [e1, e2, if_pos (.inr (.inl (by omega)))]
      rw [ed, if_pos hok.1, decide_eq_true hok.1]
      have good : ∀ {w4 : World} {Kr : Value → World → Prop} {Kn : Value → Value → Value → Value → Value → World → Prop}, Kn (.int .i64 now) (.int .i64 0) (.int .i64 0) (.int .i64 now) (.bool true) w4 → F4_1 Kn Kr (.int .i64 now) (.int .i64 0) (.int .i64 0) (.int .i64 now) (.bool true) (.bool false) w4 := by
        intro w4 Kr Kn hk
        unfold F4_1
        simp only [rdI_mk, rdB_mk, br_false]
        exact hk
      rw [br_dec]
      refine ⟨fun hh => by exfalso; omega, fun _ => ?_⟩
      rw [decide_eq_false (by omega)]
      refine good ?_
      intro _g
      simp only [rdI_mk, rdB_mk]
      rw [show ((0 : Int) == 0) = true from rfl, br_true, br_true, br_true, eI, br_true]
      refine cl (c19 (Hs.tb h3 ht)) ?_
      rintro _ w5 ⟨rfl, s5⟩
      exact ⟨_, rfl, rfl, (h3.same s5).1⟩
    · rw [if_neg hok] at h2 ⊢
      refine cl (c21 h2 ⟨o1.d0, o1.d1⟩ now) ?_
      rintro _ w3 ⟨rfl, h3⟩
      rw [if_neg hok] at h3 ⊢
      refine ⟨_, rfl, clr (c22 h3) ⟨_, _, rfl, ?_⟩⟩
      have bad : ∀ {w4 : World} {t : Int} {b : Bool} {Kn : Value → Value → Value → Value → Value → World → Prop}, Hs w (boxL bb D x ++ (refL rr R x ++ [])) w4 → F4_1 Kn (fun y w' => ∀ _g : Tm, rdB y fun b => (.bool b : Value) = .bool true ∧ Same w w') (.int .i64 now) (.int .i64 1) (.int .i64 1) (.int .i64 t) (.bool b) (.bool true) w4 := by
        intro w4 t b Kn h4
        unfold F4_1
        simp only [rdI_mk, rdB_mk, br_true]
        rw [show ((1 : Int) == 1) = true from rfl, br_true, br_true]
        refine cl (c19 (Hs.tb h4 ht)) ?_
        rintro _ w5 ⟨rfl, s5⟩
        refine ⟨_, rfl, fun _g => ?_⟩
        exact ⟨rfl, (h4.same s5).1⟩
      rw [br_dec]
      refine ⟨fun hh => bad h3, fun hh => ?_⟩
      have e9 : decide (now > 1099511627776) = true := decide_eq_true (by omega)
      rw [e9]
      exact bad h3
end
end Go.Proofs.YtccffjlahpfdaaaDoor
