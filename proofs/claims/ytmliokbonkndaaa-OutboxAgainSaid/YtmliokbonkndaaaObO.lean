/-
  A box that works; a box that nobody made.
-/
import Derived.Test.YtmliokbonkndaaaObN
import Derived.Test.YtmliokbonkndaaaShV
import Derived.Laws.IdiomStrings
import Derived.Laws.BytesString
import Derived.Lib.SlBytesConst
namespace Go.Proofs.Ytmliokbonkndaaa
open Go Go.Sh
theorem u23 : Try.prog.underlying 23 = some (.slice 5) := by kernel_rfl
theorem u5 : Try.prog.underlying 5 = some (.int .u8) := by kernel_rfl
theorem u9 : Try.prog.underlying 9 = some .string := by kernel_rfl
def sB (s : ByteArray) : List Int := s.data.toList.map fun b => (b.toNat : Int)
def En.s (s : ByteArray) : En := { En.z with data := sB s, bg := true, en := true }
theorem c11 (s : ByteArray) (w : World) : Calls Try.prog 11 #[.string s] w (rt fun v w' => ∃ a c, v = ((En.s s).pt a c).v ∧ Rd w' a (byV (sB s)) ∧ Same w w') := by
  refine F11_ok ?_
  unfold F11
  show rdS (.string s) _
  unfold rdS
  refine ⟨s, rfl, ?_⟩
  refine (Hs.start w).alc fun b2 w1 h1 => ?_
  obtain ⟨cs, hcs⟩ : ∃ cs, cs = bytesRow s (grownCap w1 s.size 0 5) := ⟨_, rfl⟩
  have hrun := run_bytes_of_string (P := Try.prog) w1 9 23 5 s u9 u23 u5
  rw [← hcs] at hrun
  refine ⟨_, _, _, _, hrun, ?_⟩
  have h2 := ((h1.same ((Fr.refl w1).drew)).alloc (.cells cs 5 (cs.size, cs.size + 1)))
  generalize w1.drew.alloc (.cells cs 5 (cs.size, cs.size + 1)) = w2 at h2 ⊢
  have h2 : Hs w [pt w1.heap.size (.cells cs 5 (cs.size, cs.size + 1)), pt b2 (.cells (R40.mk 0 0 0 false none 0 0 false false).c 41 (0, 0))] w2 := h2
  refine h2.stcL 1 rfl rfl fun w3 h3 => ?_
  refine ldR40_of (s := (En.s s).pt (some ⟨w1.heap.size, 0, none⟩) (grownCap w1 s.size 0 5)) ?_ ⟨_, _, rfl, ?_, h3.old⟩
  · have e1 : (En.s s).data.length = s.size := by
      show (sB s).length = s.size
      unfold sB
      rw [List.length_map]
      rfl
    have e2 : ((En.s s).pt (some ⟨w1.heap.size, 0, none⟩) (grownCap w1 s.size 0 5)).l = (R40.mk 0 0 0 false (some ⟨w1.heap.size, 0, none⟩) s.size (grownCap w1 s.size 0 5) true true).l := by
      unfold En.pt
      rw [e1]
      rfl
    rw [e2]
    exact h3.atL 1 rfl
  · intro j u hj
    refine ⟨_, rfl, ?_⟩
    rw [add_mk, Nat.zero_add, cell_at (h3.at 0 rfl), hcs]
    have hlt := (List.getElem?_eq_some_iff.1 hj).1
    have hl : j < s.data.size := by simpa [byV, sB] using hlt
    have e1 : (byV (sB s))[j]? = some (.int .u8 (s.data[j]'hl).toNat) := by
      unfold byV sB
      rw [List.getElem?_map, List.getElem?_map, Array.getElem?_toList, Array.getElem?_eq_getElem hl]
      rfl
    rw [e1] at hj
    cases hj
    unfold bytesRow
    rw [Array.getElem?_append_left (by simpa using hl), Array.getElem?_map, Array.getElem?_eq_getElem hl]
    rfl
def eA : En := (En.s ⟨#[97, 98]⟩).put 1 0 5
def eB : En := (En.s ⟨#[99]⟩).put 2 0 6
def rA : Rp := ⟨3, 0, [(2, 2)], []⟩
theorem t53 : flT Try.prog 53 [.int .i64, .bool, .int .i64, .int .i64] = true := by kernel_rfl
theorem mR52 (s : R52) : mL [.int .i64, .bool, .int .i64, .int .i64] s.l := ⟨⟨_, rfl⟩, ⟨_, rfl⟩, ⟨_, rfl⟩, ⟨_, rfl⟩, trivial⟩
theorem newA : newC 1 = 0 := by decide
theorem putA : (En.s ⟨#[97, 98]⟩).put (nxt 0 0) 0 5 = eA := by kernel_rfl
theorem putB : (En.s ⟨#[99]⟩).put (nxt 0 1) 0 6 = eB := by kernel_rfl
theorem nxA : nxt 0 0 = 1 := by decide
theorem nxB : nxt 0 1 = 2 := by decide
theorem codeA : putE 2 0 5 (En.s ⟨#[97, 98]⟩) 0 = 0 := by decide
theorem codeB : putE 2 0 6 (En.s ⟨#[99]⟩) 1 = 0 := by decide
theorem codeR : repE rA 0 2 9 = 0 := by decide
def lA : List En := [{ eA with miss := 1 }, { eB with st := 3 }]
theorem lA_l2 : rA.l2 0 9 [eA, eB] = lA := by kernel_rfl
theorem lA_n0 : (rA.n0 0).toNat = 0 := by kernel_rfl
theorem lA_s : (rA.sums 0 [eA, eB]).1 = 0 := by kernel_rfl
theorem lA_p : rA.paths 0 9 [eA, eB] 0 = ⟨1, false, 3, 0⟩ := by kernel_rfl
theorem c14 (w : World) : Calls Try.prog 14 #[] w (rt fun v w' => v = .bool true ∧ Same w w') := by
  refine F14_ok ?_
  unfold F14
  refine cl (c9 (Hs.start w) 1 2) ?_
  rintro _ w1 (⟨h0, _⟩ | ⟨_, bb, rfl, h1⟩)
  · exact absurd (by decide) h0
  refine ⟨_, _, rfl, ?_⟩
  rw [newA] at h1
  rw [show ((0 : Int) != 0) = false from rfl, br_false]
  simp only [Option.isNone_some, br_false]
  unfold F14_1
  simp only [rdP_mk]
  refine cl (c11 _ w1) ?_
  rintro _ w2 ⟨da, dc, rfl, hr, s2⟩
  refine exR40_of ((En.s ⟨#[97, 98]⟩).pt da dc) ⟨rfl, ?_⟩
  have h2 := h1.same s2
  refine cl (c10 (e := En.s ⟨#[97, 98]⟩) h2 (by decide) (by decide) (by simp [dats]) hr 0 5) ?_
  rintro _ w3 (⟨h0, _⟩ | ⟨_, rfl, b1, a1, k1, h3⟩)
  · exact absurd codeA h0
  rw [show nxt 0 ([] : List (Nat × En)).length = 1 from nxA] at h3 ⊢
  refine ⟨_, _, rfl, ?_⟩
  have h3 : Hs w (boxL bb 2 0 a1 k1 [(b1, eA)] ++ []) w3 := by rw [← putA, nxA]; exact h3
  refine cl (c11 _ w3) ?_
  rintro _ w4 ⟨da, dc, rfl, hr, s4⟩
  refine exR40_of ((En.s ⟨#[99]⟩).pt da dc) ⟨rfl, ?_⟩
  have h4 := h3.same s4
  refine cl (c10 (e := En.s ⟨#[99]⟩) h4 (by decide) (show (1 : Nat) ≤ 1048576 by decide) (fun e he => by simp [dats] at he; subst he; decide) hr 0 6) ?_
  rintro _ w5 (⟨h0, _⟩ | ⟨_, rfl, b2, a2, k2, h5⟩)
  · exact absurd codeB h0
  rw [show nxt 0 [(b1, eA)].length = 2 from nxB] at h5 ⊢
  refine ⟨_, _, rfl, ?_⟩
  have h5 : Hs w (boxL bb 2 0 a2 k2 [(b1, eA), (b2, eB)] ++ []) w5 := by rw [← putB, nxB]; exact h5
  refine h5.alc fun b16 w6 h6 => ?_
  have h6 : Hs w (boxL bb 2 0 a2 k2 [(b1, eA), (b2, eB)] ++ [pt b16 (.cells #[.int .u16 2, .int .u16 2] 44 (0, 0))]) w6 := (Hs.flip (X := [_])).1 h6
  have hk : RpOk w [pt b16 (.cells #[.int .u16 2, .int .u16 2] 44 (0, 0))] ⟨3, 0, 0, 0, 0, 0, 0, 0, 0, 0, some ⟨b16, 0, none⟩, 1, 1, none, 0, 0, none, 0, 0, none, 0, 0, none, 0, 0⟩ rA := by
    refine ⟨rfl, rfl, by decide, rfl, ?_, rfl, fun _ _ => Rd.nil _ _, by simp [gOk, rA], by simp [gOk, rA]⟩
    intro w' h' j u hj
    refine ⟨_, rfl, ?_⟩
    rw [add_mk, Nat.zero_add, cell_at (h'.at 0 rfl)]
    simpa [gapV, gpV, rA] using hj
  have hp : ∀ e ∈ dats [(b1, eA), (b2, eB)], 0 ≤ e.path ∧ e.path < 2 := by
    intro e he
    rcases List.mem_cons.1 he with rfl | he
    · exact (show 0 ≤ eA.path ∧ eA.path < 2 from ⟨by decide, by decide⟩)
    rcases List.mem_cons.1 he with rfl | he
    · exact (show 0 ≤ eB.path ∧ eB.path < 2 from ⟨by decide, by decide⟩)
    · cases he
  have hc := c13 (es := [(b1, eA), (b2, eB)]) (N := 2) hk (show (2 : Nat) ≤ 1048576 by decide) rfl ⟨by decide, by decide⟩ ⟨by decide, by decide⟩ hp h6 (now := 9)
  refine cl hc ?_
  rintro _ w7 (⟨h0, _⟩ | ⟨_, s, rfl, oa, oc, a3, k3, es, rfl, hes, h7⟩)
  · exact absurd codeR h0
  have hes : dats es = lA := by
    rw [lA_n0] at hes
    exact hes.trans (by rw [show dats [(b1, eA), (b2, eB)] = [eA, eB] from rfl, lA_l2]; rfl)
  rw [show dats [(b1, eA), (b2, eB)] = [eA, eB] from rfl] at h7 ⊢
  obtain ⟨s1, hs1⟩ : ∃ s1, s1 = (rA.sums 0 [eA, eB]).1 := ⟨_, rfl⟩
  obtain ⟨s2, hs2⟩ : ∃ s2, s2 = (rA.sums 0 [eA, eB]).2 := ⟨_, rfl⟩
  obtain ⟨pf, hpf⟩ : ∃ pf, pf = rA.paths 0 9 [eA, eB] := ⟨_, rfl⟩
  have hp0 : pf 0 = ⟨1, false, 3, 0⟩ := by rw [hpf]; exact lA_p
  rw [← hpf] at h7
  rw [← hs1, ← hs2]
  rw [lA_s] at hs1
  subst hs1
  refine exR47_of (R47.mk oa 2 oc 0 s2) ⟨_, rfl, ?_⟩
  refine h7.alc fun b22 w8 h8 => h8.stcL 0 rfl rfl fun w9 h9 => ?_
  have hN : (1 : Int) ≤ 2 := by decide
  have hle : es.length = 2 := by
    have := congrArg List.length hes
    simpa [dats, lA] using this
  have hd : ∀ e ∈ dats es, e.data.length ≤ 70000 := by
    rw [hes]
    intro e he
    rcases List.mem_cons.1 he with rfl | he
    · exact (show eA.data.length ≤ 70000 by decide)
    rcases List.mem_cons.1 he with rfl | he
    · exact (show eB.data.length ≤ 70000 by decide)
    · cases he
  have hb : RB w9 bb 2 rA.tsn es := box_rbX (X := [_, _]) h9
  refine cl (c15 hb hN (by omega) hd) ?_
  rintro _ w10 ⟨la, lc, ds, rfl, hds, ho⟩
  refine ⟨_, _, _, rfl, ?_⟩
  have h10 := h9.same ho.old
  rw [hes] at hds ⊢
  simp only [beq_self_eq_true, br_true]
  refine h10.ldI 0 rfl rfl ?_
  show br ((0 : Int) == 0) _ _
  rw [show ((0 : Int) == 0) = true from rfl, br_true]
  refine h10.ldC 0 rfl rfl ?_
  show br (((2 : Nat) : Int) == 2) _ _
  rw [show (((2 : Nat) : Int) == 2) = true from rfl, br_true]
  refine h10.ldC 0 rfl rfl ?_
  have hr := h10.rd 1 rfl
  obtain ⟨od, rfl⟩ := hr.some (by rw [aV_length]; decide)
  refine ixS_to (p := 0) rfl (show 0 < 2 by decide) ?_
  refine ldR52_of (s := pf 0) (fun j v hj => ?_) ?_
  · rw [add_add]
    exact hr.at (aV_at (by decide) hj)
  have key := eql_flat (P := Try.prog) (w := w10) (t := 53) (x := .tmp 75) (y := .tmp 76) (vs := (pf 0).l) (us := (pf 0).l) t53 (mR52 _) (mR52 _)
  rw [eqvs_self (mR52 _)] at key
  refine ⟨true, w10, ?_, ?_⟩
  · refine Eq.trans ?_ key
    rw [hp0]
    rfl
  rw [br_true]
  have hb10 : RB w10 bb 2 rA.tsn es := box_rbX (X := [_, _]) h10
  refine cl (c27 hb10 hN (by omega) hd 0) ?_
  rintro _ w11 ⟨s11, rfl⟩
  refine ⟨_, rfl, ?_⟩
  have ho11 := ho.same s11
  have h11 := h10.same s11
  rw [hes, show ((szs (onB 0) lA : Nat) : Int) = 2 from by decide]
  rw [show ((2 : Int) == 2) = true from rfl, br_true, show ((lA.length : Int) == 2) = true from rfl, br_true]
  match ds, hds, ho11 with
  | [], hds, _ => exact absurd (congrArg List.length hds) (by simp [lA])
  | [_], hds, _ => exact absurd (congrArg List.length hds) (by simp [lA])
  | _ :: _ :: _ :: _, hds, _ => exact absurd (congrArg List.length hds) (by simp [lA])
  | [d0, d1], hds, ho11 =>
    have hd0 : d0.1 = { eA with miss := 1 } := (List.cons.inj hds).1
    have hd1 : d1.1 = { eB with st := 3 } := (List.cons.inj (List.cons.inj hds).2).1
    have hr := ho11.rd 0 rfl
    obtain ⟨ld, rfl⟩ := hr.some (show 0 < 28 by decide)
    have hl : ([d0, d1] : List (En × Option Addr × Nat)).length = 2 := rfl
    refine ixS_to (p := 0) rfl (by decide) ?_
    simp only [add_add]
    refine ldI_c (hr.at (j := 4) (u := .int .i64 d0.1.miss) rfl) ?_
    rw [hd0]
    show br ((1 : Int) == 1) _ _
    rw [show ((1 : Int) == 1) = true from rfl, br_true]
    refine ixS_to (p := 1) rfl (by decide) ?_
    simp only [add_add]
    refine ldI_c (hr.at (j := 20) (u := .int .i64 d1.1.st) rfl) ?_
    rw [hd1]
    exact fun _g => ⟨true, rfl, rfl, h11.old⟩
end Go.Proofs.Ytmliokbonkndaaa
