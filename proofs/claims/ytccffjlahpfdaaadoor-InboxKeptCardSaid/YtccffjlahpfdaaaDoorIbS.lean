/- Own text: part of the shallow reading of the code and of the contracts that are proved over it. -/
import Derived.Test.YtccffjlahpfdaaaDoorIbQ
namespace Go.Proofs.YtccffjlahpfdaaaDoor
open Go Go.Sh Go.Sp
section
variable {W w : World} {L : List HP} {bb rr : Nat} {D : BD} {R : RD} {x : BX}
theorem rd_one {g : Nat} {t : Int} (hg : w.heap[g]? = some (.cells #[.int .u32 t] 22 (0, 0))) : Rd w (some ⟨g, 0, none⟩) (nV [t]) := by
  intro j u hj
  refine ⟨_, rfl, ?_⟩
  rw [add_mk, cell_at hg, Nat.zero_add, ← Array.getElem?_toList]
  exact hj
theorem c3_5 {Kr : Value → World → Prop} {sa : Option Addr} {sc : Nat} {qs : List OpB} (ht : TB W) (hr : Rd W sa (qs.flatMap opB)) (hq : ∀ q ∈ qs, OpOk W q) {t : Int} (t0 : 0 ≤ t) (t1 : t < 4294967296) {b : Bool}
    (h : Hs W (boxL bb D x ++ (refL rr R x ++ L)) w) (ho : OkX x) (hm : Many 300 x) (hnr : x.nr = true) (hb : b = true → t ∈ x.fx) (hK : ∀ w', Same W w' → Kr (.bool true) w') :
    F3_5 Kr (.slice sa qs.length sc) (.pointer (some ⟨bb, 0, none⟩)) (.pointer (some ⟨rr, 0, none⟩)) (.int .u32 t) (.bool b) w := by
  unfold F3_5
  simp only [rdC_mk, rdP_mk, rdI_mk, rdB_mk]
  have loop : ∀ (i j : Nat) (D : BD) (R : RD) (y : BX) (w3 : World) (k : Nat) (K0 : Value → Value → Value → World → Prop) (Kr : Value → World → Prop), j + i = min 200 qs.length → OkX y → Many (300 + j) y → y.nr = true → (b = true → Kp t j y) → Hs W (boxL bb D y ++ (refL rr R y ++ L)) w3 → i < k →
      (∀ w' D' R' y, OkX y → Many 500 y → y.nr = true → (b = true → Kp t 200 y) → Hs W (boxL bb D' y ++ (refL rr R' y ++ L)) w' → K0 (.pointer (some ⟨bb, 0, none⟩)) (.int .u32 t) (.bool b) w') →
      F3_4 K0 Kr k (.slice sa qs.length sc) (.pointer (some ⟨bb, 0, none⟩)) (.pointer (some ⟨rr, 0, none⟩)) (.int .u32 t) (.bool b) (.int .i64 (j : Int)) w3 := by
    intro i
    induction i with
    | zero =>
      intro j D R y w3 k K0 Kr hj ho hm hnr hkp hw hk hK
      obtain ⟨k, rfl⟩ : ∃ j, k = j + 1 := ⟨k - 1, by omega⟩
      show F3_4B _ _ _ _ _ _ _ _ _ _
      unfold F3_4B
      simp only [rdC_mk, rdP_mk, rdI_mk, rdB_mk]
      have fin := hK w3 D R y ho (hm.mono (by omega)) hnr (fun h => (hkp h).mono (by omega)) hw
      rw [br_dec]
      refine ⟨fun h1 => ?_, fun _ => fin⟩
      rw [br_dec]
      exact ⟨fun h2 => by exfalso; omega, fun _ => fin⟩
    | succ i ih =>
      intro j D R y w3 k K0 Kr hj ho hm hnr hkp hw hk hK
      obtain ⟨k, rfl⟩ : ∃ j, k = j + 1 := ⟨k - 1, by omega⟩
      show F3_4B _ _ _ _ _ _ _ _ _ _
      unfold F3_4B
      simp only [rdC_mk, rdP_mk, rdI_mk, rdB_mk]
      rw [br_dec]
      refine ⟨fun _ => ?_, fun h => by exfalso; omega⟩
      rw [br_dec]
      refine ⟨fun _ => ?_, fun h => by exfalso; omega⟩
      unfold F3_2
      simp only [rdC_mk, rdP_mk, rdI_mk, rdB_mk]
      obtain ⟨q, hqj⟩ : ∃ q, qs[j]? = some q := ⟨qs[j]'(by omega), by simp⟩
      have e1 : IntKind.wrap .i64 ((j : Int) + 1) = ((j + 1 : Nat) : Int) := by rw [wrap_i64 (by omega) (by omega)]; omega
      refine step_op (sc := sc) ht hr hq hqj hw ho fun w4 D4 R4 h4 o4 => ?_
      rw [Bool.not_true, br_false]
      intro _g
      rw [e1]
      exact ih (j + 1) D4 R4 _ w4 k K0 Kr (by omega) o4 (many_act (by omega) hm q.o) ((nr_act q.o).trans hnr) (fun hb => kp_act (by omega) ho (box_RngX hw) t0 t1 (hkp hb) q.o) h4 (by omega) hK
  refine ⟨min 200 qs.length + 1, loop (min 200 qs.length) 0 D R x w _ _ _ (by omega) ho hm hnr (fun hb' => .inl (hb hb')) h (by omega) fun w1 D1 R1 y o1 m1 nr1 kp1 h1 _g => ?_⟩
  simp only [rdP_mk, rdI_mk, rdB_mk]
  have hry := box_RngX h1
  have hms := m1.s
  obtain ⟨_, t2, t3, _, t5⟩ := gaps_tell hry (by omega)
  refine cl (c17 ht h1 o1 1 4096) ?_
  rintro _ w2 (⟨hN, _⟩ | ⟨_, r, D2, rfl, h2⟩)
  · exact absurd (by decide) hN
  refine ⟨_, _, _, _, _, _, _, _, _, _, _, _, _, _, _, _, _, _, _, _, _, _, _, _, _, _, rfl, h2.alc fun b1 w3 h3 => ?_⟩
  refine sto15_ok (c0 := zCH) h3 0 rfl (repCH y 1 4096 r) fun w4 h4 => ?_
  rw [show ((0 : Int) != 0) = false from rfl, br_false]
  refine h4.ldI 0 rfl rfl (clr (c18 y.cum t w4 hry.c0 hry.c1 t0 t1) ⟨_, rfl, ?_⟩)
  have good : ∀ {w5 : World}, Same w4 w5 → Calls Tryd.prog 19 #[] w5 fun e w6 => ∃ b51, e = .returned (.bool b51) ∧ Kr (.bool b51) w6 := by
    intro w5 s5
    have h5 := h4.same s5
    refine cl (c19 (Hs.tb h5 ht)) ?_
    rintro _ w6 ⟨rfl, s6⟩
    exact ⟨_, rfl, hK w6 (h5.same s6).1⟩
  rw [br_iff]
  refine ⟨fun _ => good (Fr.refl _), fun hbt => ?_⟩
  have hbt : b = true := by simpa using hbt
  rw [br_dec]
  refine ⟨fun _ => good (Fr.refl _), fun hd => ?_⟩
  have hfx : t ∈ y.fx := by
    rcases kp1 hbt with h | ⟨_, h⟩
    · exact h
    · omega
  obtain ⟨d, hdS, e⟩ := mem_nums.1 (o1.sub t hfx)
  have hdr := hry.rng d hdS
  have hsd : sd y.cum t = d := sd_num hry.c0 hry.c1 hdr.2 e
  have hin : inG (nrOf y 4096) d := (t3 d).2 ⟨nr1, hdS, by unfold nm; rw [← e]; exact hfx⟩
  unfold F3_3
  simp only [rdP_mk, rdI_mk, rdA_mk]
  have hB : Hs W (boxL bb D2 y.rep ++ ([pt b1 _] ++ (repL y 4096 r ++ (refL rr R1 y ++ L)))) w4 := Hs.grp (Gs := [[_], repL y 4096 r, boxL bb D2 y.rep, refL rr R1 y]) (L := L) (n := 4) h4 rfl [] [2, 0, 1, 3] (by decide)
  have loop2 : ∀ (i j : Nat) (k : Nat) (K2 : World → Prop) (Kr2 : Value → World → Prop), j + i = (nrOf y 4096).length → (∃ p ∈ (nrOf y 4096).drop j, p.1 ≤ d ∧ d ≤ p.2) → i < k → (∀ w', Same w4 w' → Calls Tryd.prog 19 #[] w' fun e18 w17 => ∃ b16, e18 = .returned (.bool b16) ∧ Kr2 (.bool b16) w17) →
      F3_1 K2 Kr2 k (.pointer (some ⟨bb, 0, none⟩)) (.int .u32 t) (.pointer (some ⟨b1, 0, none⟩)) (.int .i64 (sd y.cum t)) (.int .i64 (j : Int)) w4 := by
    intro i
    induction i with
    | zero =>
      intro j k K2 Kr2 hj hex hk hK2
      exfalso
      obtain ⟨p, hp, _⟩ := hex
      rw [List.drop_eq_nil_of_le (by omega)] at hp
      simp at hp
    | succ i ih =>
      intro j k K2 Kr2 hj hex hk hK2
      obtain ⟨k, rfl⟩ : ∃ j, k = j + 1 := ⟨k - 1, by omega⟩
      show F3_1B _ _ _ _ _ _ _ _ _
      unfold F3_1B
      simp only [rdP_mk, rdI_mk, rdA_mk]
      refine h4.ldC 0 rfl rfl ?_
      rw [br_dec]
      refine ⟨fun _ => h4.ldC 0 rfl rfl ?_, fun h => by exfalso; apply h; show (j : Int) < ((nrOf y 4096).length : Int); omega⟩
      obtain ⟨p, hp⟩ : ∃ p, (nrOf y 4096)[j]? = some p := ⟨(nrOf y 4096)[j]'(by omega), by simp⟩
      have hpr := t2 p (List.mem_append.2 (.inr (List.mem_of_getElem? hp)))
      have hrd := h4.rd 2 rfl
      obtain ⟨nd, hnd⟩ := hrd.some (by rw [gapV_length]; omega)
      have e1 : IntKind.wrap .i64 ((j : Int) + 1) = ((j + 1 : Nat) : Int) := by rw [wrap_i64 (by omega) (by omega)]; omega
      have ew1 : IntKind.wrap .i64 (p.1 : Int) = (p.1 : Int) := wrap_i64 (by omega) (by omega)
      have ew2 : IntKind.wrap .i64 (p.2 : Int) = (p.2 : Int) := wrap_i64 (by omega) (by omega)
      have hrd' := hrd
      rw [hnd] at hrd'
      have at_ : ∀ {K : Addr → Prop}, K (nd.add (j * 2)) → ixS 2 (repCH y 1 4096 r).na (repCH y 1 4096 r).nl (j : Int) K := by
        intro K hk
        show ixS 2 r.na (nrOf y 4096).length (j : Int) K
        rw [hnd]
        exact ixS_of (by omega) (by omega) (by rw [Int.toNat_natCast]; exact hk)
      have skip : ¬ (p.1 ≤ d ∧ d ≤ p.2) → F3_1 K2 Kr2 k (.pointer (some ⟨bb, 0, none⟩)) (.int .u32 t) (.pointer (some ⟨b1, 0, none⟩)) (.int .i64 (sd y.cum t)) (.int .i64 (IntKind.wrap .i64 ((j : Int) + 1))) w4 := by
        intro hn
        rw [e1]
        refine ih (j + 1) k K2 Kr2 (by omega) ?_ (by omega) hK2
        obtain ⟨p', hp', hh⟩ := hex
        rw [List.drop_eq_getElem_cons (by omega)] at hp'
        rcases List.mem_cons.1 hp' with e' | hp'
        · have : p' = p := by rw [e']; exact (List.getElem?_eq_some_iff.1 hp).2
          subst this; exact absurd hh hn
        · exact ⟨p', hp', hh⟩
      refine at_ ?_
      simp only [add_add]
      refine ldI_c (hrd'.at (gapV_at hp).1) ?_
      rw [ew1, br_dec]
      refine ⟨fun hge => h4.ldC 0 rfl rfl (at_ ?_), fun hge => skip (by omega)⟩
      simp only [add_add]
      refine ldI_c (hrd'.at (gapV_at hp).2) ?_
      rw [ew2, br_dec]
      refine ⟨fun hle => ?_, fun hle => skip (by omega)⟩
      refine cl (c20 hB t) ?_
      rintro _ w5 ⟨rfl, s5⟩
      refine ⟨_, rfl, ?_⟩
      have hhas : hasS y.rep.cum y.rep.S t = true := by
        show hasS y.cum y.S t = true
        unfold hasS
        rw [hsd, Int.toNat_natCast, decide_eq_true hdS, Bool.or_true]
      rw [hhas, br_true]
      exact hK2 w5 s5
  refine ⟨(nrOf y 4096).length + 1, loop2 (nrOf y 4096).length 0 _ _ _ (by omega) ?_ (by omega) fun w' s' => ?_⟩
  · obtain ⟨p, hp, hh⟩ := hin
    exact ⟨p, by simpa using hp, hh⟩
  · refine (good s').mono ?_
    rintro e w6 ⟨b51, he, hk⟩
    exact ⟨b51, he, fun _g => ⟨b51, rfl, fun _g => ⟨b51, rfl, hk⟩⟩⟩
end
end Go.Proofs.YtccffjlahpfdaaaDoor
