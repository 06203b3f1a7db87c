/-
  Ordered messages are told by their numbers, plain (ReasmOrders).
-/
import Derived.Test.YtaflmpbeonoilaaRmQ
namespace Go.Proofs.Ytaflmpbeonoilaa
open Go Go.Sh
/-- a message that is told next, by the numbers of the streams -/
def okM (cur : List Int) (m : Ms) : Prop := (0 ≤ m.st ∧ m.st < cur.length) ∧ (if m.un = true then m.ssn = 0 else m.ssn = cur.getD m.st.toNat 0)
def nxM (cur : List Int) (m : Ms) : List Int := if m.un = true then cur else cur.set m.st.toNat (IntKind.wrap .u16 (cur.getD m.st.toNat 0 + 1))
inductive RunM : List Int → List Ms → List Int → Prop
  | nil (cur : List Int) : RunM cur [] cur
  | cons {cur : List Int} {m : Ms} {r : List Ms} {c : List Int} : okM cur m → RunM (nxM cur m) r c → RunM cur (m :: r) c
theorem RunM.snoc {cur c : List Int} {M : List Ms} {m : Ms} (h : RunM cur M c) (hm : okM c m) : RunM cur (M ++ [m]) (nxM c m) := by
  induction h with
  | nil cur => exact .cons hm (.nil _)
  | cons h1 _ ih => exact .cons h1 (ih hm)
structure OkO (s : St) (cur : List Int) : Prop extends OkB s where
  ord : ∀ row ∈ s.wh, ∃ x, look s.L (row.headD 0) = some x ∧ x.has 4 = false
  run : RunM cur s.M s.nx
section
variable {s : St} {c : Ch} {row cur : List Int}
theorem look_tell {r : List Int} (h : OkB s) (hr : r ∈ s.wh) (hd : ∀ r ∈ s.wh, ∀ t ∈ row, t ∉ r) : look (tellS s row).L (r.headD 0) = look s.L (r.headD 0) := by
  refine look_filter fun x hx => ?_
  obtain ⟨h1, _, _⟩ := h.rows r hr
  have hm : r.headD 0 ∈ r := by
    cases r with
    | nil => exact absurd rfl h1
    | cons a l => simp
  have : x.tsn ∉ row := fun hc => hd r hr _ hc (by rw [hx]; exact hm)
  simpa using this
theorem turn_stepO {st : Int} {i : Nat} (h : OkO s cur) (hi : s.wh[i]? = some row) (ht : isTurn s st row = true) : OkO (tellS (outS s st i) row) cur := by
  have hmem := List.mem_of_getElem? hi
  obtain ⟨x, hx, hx4⟩ := h.ord row hmem
  have hB := turn_stepB (st := st) h.toOkB hi
  have hoB : OkB (outS s st i) := ⟨out_ok h.toOkA st i, h.frng, fun r hr => h.whole r ((List.eraseIdx_sublist _ _).subset hr)⟩
  have hdis := out_dis h.toOkA (st := st) hi
  unfold isTurn at ht
  rw [hx] at ht
  simp only [Bool.and_eq_true, beq_iff_eq] at ht
  have hxm := (look_some hx).1
  obtain ⟨_, hst, _⟩ := h.rng x hxm
  refine ⟨hB, fun r hr => ?_, ?_⟩
  · have hr' : r ∈ (outS s st i).wh := hr
    rw [look_tell hoB hr' hdis]
    exact h.ord r ((List.eraseIdx_sublist _ _).subset hr')
  · show RunM cur (s.M ++ [msgOf ((look s.L (row.headD 0)).getD _) _]) (s.nx.set st.toNat _)
    rw [hx]
    simp only [Option.getD_some]
    have hm : okM s.nx (msgOf x (row.flatMap (bodyOf (outS s st i).L))) := by
      refine ⟨hst, ?_⟩
      show if x.has 4 = true then _ else (if x.has 4 = true then 0 else x.r.f4) = s.nx.getD x.r.f3.toNat 0
      rw [hx4]
      simp only [Bool.false_eq_true, if_false]
      rw [ht.2, ht.1]
    have := h.run.snoc hm
    have e : nxM s.nx (msgOf x (row.flatMap (bodyOf (outS s st i).L))) = s.nx.set st.toNat (IntKind.wrap .u16 (s.nx.getD st.toNat 0 + 1)) := by
      unfold nxM
      show (if x.has 4 = true then _ else s.nx.set x.r.f3.toNat (IntKind.wrap .u16 (s.nx.getD x.r.f3.toNat 0 + 1))) = _
      rw [hx4, ht.1]
      rfl
    rw [e] at this
    exact this
theorem turn_okO : ∀ (n : Nat) {s : St} {st : Int}, OkO s cur → OkO (turnS n s st) cur
  | 0, _, _, h => h
  | n + 1, s, st, h => by
    unfold turnS
    cases hf : s.wh.findIdx? (isTurn s st) with
    | none => exact h
    | some i =>
      obtain ⟨hlt, ht, _⟩ := List.findIdx?_eq_some_iff_getElem.1 hf
      have hi : s.wh[i]? = some (s.wh.getD i []) := by
        rw [List.getD_eq_getElem?_getD, List.getElem?_eq_getElem hlt]; rfl
      have hg : s.wh.getD i [] = s.wh[i] := by rw [List.getD_eq_getElem?_getD, List.getElem?_eq_getElem hlt]; rfl
      exact turn_okO n (turn_stepO (st := st) h hi (by rw [hg]; exact ht))
theorem put_okO (h : OkO s cur) (hc : CkOk c) (hl : s.lim ≤ 1073741824) (he : putE s c = 0) : OkO (putS s c) cur := by
  obtain ⟨h1, h2⟩ := put1_ok h.toOkB hc hl he
  have hnew := (putE_0 he).2.2.2.2.1
  have hord : ∀ row ∈ s.wh, ∃ x, look (put1 s c).L (row.headD 0) = some x ∧ x.has 4 = false := by
    intro r hr
    obtain ⟨x, hx, h4⟩ := h.ord r hr
    exact ⟨x, by show look (s.L ++ [c]) _ = _; rw [look_snoc (look_isSome.1 (by rw [hx]; rfl))]; exact hx, h4⟩
  have hO1 : OkO (put1 s c) cur := ⟨h1, hord, h.run⟩
  obtain ⟨g, n, g1, g2, g3, g4, h5, h6, h7, h8, hh, _, ⟨x, hx, hfx⟩, _⟩ := rowC_facts h1 hc
  unfold putS
  by_cases hw : whC s c = true
  · rw [if_pos hw]
    by_cases hu : (fstC s c).has 4 = true
    · rw [if_pos hu]
      have hdis := rowC_dis h.toOkB h1 hc hnew hw
      refine ⟨tell_okB h1 h7 h8 h6 hdis, fun r hr => ?_, ?_⟩
      · have hr' : r ∈ (put1 s c).wh := hr
        rw [look_tell h1 hr' hdis]
        exact hord r hr
      · show RunM cur (s.M ++ [msgOf ((look (s.L ++ [c]) ((rowC s c).headD 0)).getD _) _]) s.nx
        rw [hh, hx]
        simp only [Option.getD_some]
        rw [hfx] at hu
        have hst := (h1.rng x (look_some hx).1).2.1
        have hm : okM s.nx (msgOf x ((rowC s c).flatMap (bodyOf (put1 s c).L))) := by
          refine ⟨hst, ?_⟩
          show if x.has 4 = true then (if x.has 4 = true then (0 : Int) else x.r.f4) = 0 else _
          rw [hu]
          simp
        have := h.run.snoc hm
        have e : nxM s.nx (msgOf x ((rowC s c).flatMap (bodyOf (put1 s c).L))) = s.nx := by
          unfold nxM
          show (if x.has 4 = true then _ else _) = _
          rw [hu]; rfl
        rw [e] at this
        exact this
    · rw [if_neg hu]
      obtain ⟨h3, _⟩ := put2_ok h.toOkB h1 hc hnew hw
      refine turn_okO _ ⟨h3, fun r hr => ?_, h.run⟩
      rcases List.mem_append.1 hr with hr | hr
      · exact hord r hr
      · rw [List.mem_singleton] at hr
        subst hr
        refine ⟨x, by rw [hh]; exact hx, ?_⟩
        rw [hfx] at hu
        cases e : x.has 4 with
        | false => rfl
        | true => exact absurd e hu
  · rw [if_neg hw]
    exact hO1
end
end Go.Proofs.Ytaflmpbeonoilaa
