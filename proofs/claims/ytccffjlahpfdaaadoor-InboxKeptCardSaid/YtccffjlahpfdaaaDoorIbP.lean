/- Own text: part of the shallow reading of the code and of the contracts that are proved over it. -/
import Derived.Test.YtccffjlahpfdaaaDoorIbO
namespace Go.Proofs.YtccffjlahpfdaaaDoor
open Go Go.Sh Go.Sp
section
variable {W w : World} {L : List HP} {bb rr : Nat} {D : BD} {R : RD} {x : BX}
theorem run_b50 (w : World) : Sem.run Tryd.prog (Instr.buildSlice 50 0 #[]) w = .ok (.slice (some ⟨w.heap.size, 0, none⟩) 0 0) (w.alloc (.cells #[] 60)) := by kernel_rfl
theorem own_nilc {w : World} {base : Nat} {e : TypeId} {s l c : Nat} {a : Option Addr} {xs : List Value} (h : Own w base e s a l c xs) : a = none → c = 0 := by
  intro e
  rcases h.cases with ⟨_, _, e2⟩ | ⟨_, _, e2, _⟩
  · exact e2
  · rw [e2] at e; cases e
theorem rise_ext : ∀ {S T : List Nat}, S.Pairwise (· < ·) → T.Pairwise (· < ·) → (∀ x, x ∈ S ↔ x ∈ T) → S = T
  | [], [], _, _, _ => rfl
  | [], b :: T, _, _, h => by have := (h b).2 (by simp); simp at this
  | a :: S, [], _, _, h => by have := (h a).1 (by simp); simp at this
  | a :: S, b :: T, hS, hT, h => by
    rw [List.pairwise_cons] at hS hT
    have hab : a = b := by
      rcases List.mem_cons.1 ((h a).1 (by simp)) with e | e
      · exact e
      · rcases List.mem_cons.1 ((h b).2 (by simp)) with e' | e'
        · exact e'.symm
        · have := hT.1 a e; have := hS.1 b e'; omega
    subst hab
    congr 1
    refine rise_ext hS.2 hT.2 fun x => ⟨fun hx => ?_, fun hx => ?_⟩
    · rcases List.mem_cons.1 ((h x).1 (List.mem_cons_of_mem _ hx)) with e | e
      · subst e; have := hS.1 _ hx; omega
      · exact e
    · rcases List.mem_cons.1 ((h x).2 (List.mem_cons_of_mem _ hx)) with e | e
      · subst e; have := hT.1 _ hx; omega
      · exact e
theorem gapS_all {S : List Nat} (hr : S.Pairwise (· < ·)) (hl : S.length ≤ 4096) : gapS S 4096 = gapA S := by
  have := (gapA_inv S hr).2.2
  unfold gapS
  exact List.take_of_length_le (by show (gapA S).length ≤ 4096; omega)
theorem inG_append {G H : List (Nat × Nat)} {e : Nat} : inG (G ++ H) e ↔ inG G e ∨ inG H e := by
  unfold inG
  constructor
  · rintro ⟨p, hp, h⟩
    rcases List.mem_append.1 hp with hp | hp
    · exact .inl ⟨p, hp, h⟩
    · exact .inr ⟨p, hp, h⟩
  · rintro (⟨p, hp, h⟩ | ⟨p, hp, h⟩)
    · exact ⟨p, List.mem_append.2 (.inl hp), h⟩
    · exact ⟨p, List.mem_append.2 (.inr hp), h⟩
theorem gaps_tell (hr : RngX x) (hl : x.S.length ≤ 4096) : (∀ e, inG (gpsOf x 4096 ++ nrOf x 4096) e ↔ e ∈ x.S) ∧ (∀ p ∈ gpsOf x 4096 ++ nrOf x 4096, 2 ≤ p.1 ∧ p.1 ≤ p.2 ∧ p.2 ≤ 65535) ∧ (∀ e, inG (nrOf x 4096) e ↔ x.nr = true ∧ e ∈ x.S ∧ nm x.cum e ∈ x.fx) ∧ (gpsOf x 4096).length ≤ x.S.length ∧ (nrOf x 4096).length ≤ x.S.length := by
  have key : ∀ q : Nat → Bool, (∀ e, inG (gapS (x.S.filter q) 4096) e ↔ e ∈ x.S ∧ q e = true) ∧ (∀ p ∈ gapS (x.S.filter q) 4096, 2 ≤ p.1 ∧ p.1 ≤ p.2 ∧ p.2 ≤ 65535) ∧ (gapS (x.S.filter q) 4096).length ≤ x.S.length := fun q => by
    have hp := hr.rise.filter q
    have hle : (x.S.filter q).length ≤ x.S.length := List.length_filter_le _ _
    rw [gapS_all hp (by omega)]
    obtain ⟨h1, h2, h3⟩ := gapA_inv _ hp
    refine ⟨fun e => by rw [← h2 e, List.mem_filter], fun p hpp => ?_, by omega⟩
    obtain ⟨q1, q2, q3⟩ := h1 p hpp
    have r1 := hr.rng _ (List.mem_filter.1 q1).1
    have r2 := hr.rng _ (List.mem_filter.1 q2).1
    omega
  obtain ⟨g1, g2, g3⟩ := key fun d => !x.nr || !decide (nm x.cum d ∈ x.fx)
  obtain ⟨n1, n2, n3⟩ := key fun d => decide (nm x.cum d ∈ x.fx)
  have hn : ∀ e, inG (nrOf x 4096) e ↔ x.nr = true ∧ e ∈ x.S ∧ nm x.cum e ∈ x.fx := fun e => by
    unfold nrOf
    split
    · rename_i hnr; rw [n1 e]; simp [hnr]
    · rename_i hnr
      constructor
      · rintro ⟨p, hp, _⟩; simp at hp
      · rintro ⟨h, _⟩; exact absurd h hnr
  refine ⟨fun e => ?_, fun p hp => ?_, hn, g3, ?_⟩
  · rw [inG_append, hn e]
    unfold gpsOf
    rw [g1 e]
    constructor
    · rintro (⟨h, _⟩ | ⟨_, h, _⟩) <;> exact h
    · intro h
      by_cases hnr : x.nr = true
      · by_cases hf : nm x.cum e ∈ x.fx
        · exact .inr ⟨hnr, h, hf⟩
        · exact .inl ⟨h, by simp [hf]⟩
      · exact .inl ⟨h, by simp [hnr]⟩
  · rcases List.mem_append.1 hp with hp | hp
    · exact g2 p hp
    · unfold nrOf at hp
      split at hp
      · exact n2 p hp
      · simp at hp
  · unfold nrOf; split
    · exact n3
    · simp
theorem c5 {sa : Option Addr} {sc : Nat} {qs : List OpB} (ht : TB w) (hr : Rd w sa (qs.flatMap opB)) (hq : ∀ q ∈ qs, OpOk w q) (first delay : Int) (nr : Bool) :
    Calls Tryd.prog 5 #[.int .u32 first, .int .i64 delay, .bool nr, .slice sa qs.length sc] w (rt fun v w' => v = .bool true ∧ Same w w') := by
  refine F5_ok ?_
  unfold F5
  simp only [rdI_mk, rdB_mk, rdC_mk]
  refine cl (c8 (L := []) ht hr hq (Hs.start w) first delay nr) ?_
  rintro _ w1 (⟨hN, rfl, h1⟩ | ⟨hN, bb, D, rr, R, rfl, h1, o1⟩)
  · refine ⟨_, _, _, rfl, ?_⟩
    rw [Bool.not_true, br_false, Option.isNone_none, br_true]
    refine cl (c19 (Hs.tb h1 ht)) ?_
    rintro _ w2 ⟨rfl, s2⟩
    exact ⟨_, rfl, rfl, (h1.same s2).1⟩
  refine ⟨_, _, _, rfl, ?_⟩
  rw [Bool.not_true, br_false, Option.isNone_some, br_false]
  have hm := many_200 first delay nr qs
  generalize runX (x0 first delay nr) (qs.take 200) = x at h1 o1 hm
  have hrx := box_RngX h1
  have hms := hm.s
  obtain ⟨t1, t2, _, t4, t5⟩ := gaps_tell hrx (by omega)
  refine cl (c17 ht h1 o1 1 4096) ?_
  rintro _ w2 (⟨hN, _⟩ | ⟨_, r, D2, rfl, h2⟩)
  · exact absurd (by decide) hN
  refine ⟨_, _, _, _, _, _, _, _, _, _, _, _, _, _, _, _, _, _, _, _, _, _, _, _, _, _, rfl, h2.alc fun b1 w3 h3 => ?_⟩
  refine sto15_ok (c0 := zCH) h3 0 rfl (repCH x 1 4096 r) fun w4 h4 => ?_
  unfold drw
  have h5 := h4.drew
  generalize w4.drew = w5 at h5 ⊢
  refine h5.ldI 0 rfl rfl (h5.ldC 0 rfl rfl (h5.ldC 0 rfl rfl ⟨_, _, _, _, run_b50 w5, ?_⟩))
  have k1 := (Hs.start w5).void 60 2
  generalize w5.alloc (.cells #[] 60) = w6 at k1 ⊢
  refine ⟨Pres.of_Same k1.1, ?_⟩
  have og := h5.own 1 rfl
  have on' := h5.own 2 rfl
  refine k1.appendA E37 0 rfl (news := gapV (gpsOf x 4096)) (m := (gpsOf x 4096).length) (gapV_length _) (k1.rd_old og.rd) (own_nilc og) (fun u hu => ?_) (by omega) (by omega) ?_
  · obtain ⟨p, _, hu⟩ := List.mem_flatMap.1 hu
    simp at hu; rcases hu with rfl | rfl <;> rfl
  intro a2 c2 w7 k2 _
  refine ⟨Pres.of_Same k2.1, ?_⟩
  simp only [Nat.zero_add, List.nil_append, List.set_cons_zero] at k2 ⊢
  refine k2.appendA E37 0 rfl (news := gapV (nrOf x 4096)) (m := (nrOf x 4096).length) (gapV_length _) (k2.rd_old on'.rd) (own_nilc on') (fun u hu => ?_) (by omega) (by omega) ?_
  · obtain ⟨p, _, hu⟩ := List.mem_flatMap.1 hu
    simp at hu; rcases hu with rfl | rfl <;> rfl
  intro a3 c3 w8 k3 _
  refine ⟨Pres.of_Same k3.1, ?_⟩
  simp only [List.set_cons_zero] at k3
  have eg : gapV (gpsOf x 4096) ++ gapV (nrOf x 4096) = gapV (gpsOf x 4096 ++ nrOf x 4096) := by simp [gapV]
  rw [eg] at k3
  have el : (gpsOf x 4096).length + (nrOf x 4096).length = (gpsOf x 4096 ++ nrOf x 4096).length := by simp
  rw [el] at k3 ⊢
  have hGr : ∀ p ∈ gpsOf x 4096 ++ nrOf x 4096, p.1 ≤ 65535 ∧ p.2 ≤ 65535 := fun p hp => by have := t2 p hp; omega
  refine cl (r23 (cc := c3) (n := x.cum) hrx.c0 hrx.c1 (k3.rd 0 rfl) hGr) ?_
  have h8 := h5.same k3.1
  rintro _ w9 (⟨hlen, _⟩ | ⟨_, ⟨p, hp, hb⟩, _⟩ | ⟨_, _, sb, sa', S', rfl, hR, hS', s9⟩)
  · exfalso; rw [← el] at hlen; omega
  · exfalso; have := t2 p hp; unfold badG at hb; omega
  refine ⟨_, _, rfl, ?_⟩
  rw [show ((0 : Int) != 0) = false from rfl, br_false, br_false]
  have hSS : S' = x.S := rise_ext hR.rising hrx.rise fun e => by
    rw [hS' e, t1 e]
    exact ⟨fun h => h.2, fun h => ⟨by have := hrx.rng e h; omega, h⟩⟩
  subst hSS
  have h9 := h8.same s9
  have hB : Hs w (boxL bb D2 x.rep ++ ([pt b1 _] ++ (repL x 4096 r ++ (refL rr R x ++ [])))) w9 := Hs.grp (Gs := [[_], repL x 4096 r, boxL bb D2 x.rep, refL rr R x]) (L := []) (n := 4) h9 rfl [] [2, 0, 1, 3] (by decide)
  unfold F5_1 drw
  simp only [rdP_mk, nn_some, add_mk]
  have hB1 := hB.drew
  have hR1 := hR.same (Fr.refl w9).drew
  generalize w9.drew = w10 at hB1 hR1 ⊢
  obtain ⟨c, hb1, _⟩ := hR1.blk
  refine ⟨w10, Pres.refl _, ldI_at hb1 rfl (clr (c24 hB1) ⟨_, rfl, Pres.refl _, ?_⟩)⟩
  have eI : ∀ x : Int, (x == x) = true := fun x => by simp
  have ec : x.rep.cum = x.cum := rfl
  rw [ec, eI, br_true]
  refine cl (r26 hR1) ?_
  rintro _ w11 ⟨a11, c11, rfl, o11, s11⟩
  rw [numV_nV] at o11
  refine ⟨_, _, _, rfl, ?_⟩
  have m1 := (Hs.start w10).own_new s11 o11
  refine cl (c27 ht (hB1.same m1.1)) ?_
  rintro _ w12 ⟨a12, c12, rfl, o12, s12⟩
  refine ⟨_, _, _, rfl, ?_⟩
  have m2 := m1.own_new s12 o12
  have hlen := hrx.len
  have key := c25 (X := nums x.cum x.S) (Y := nums x.cum x.S) (d1 := c11) (d2 := c12) (m2.rd 1 rfl) (m2.rd 0 rfl) (by rw [nums_length]; omega)
  rw [nums_length] at key
  refine cl key ?_
  rintro _ w13 ⟨rfl, s13⟩
  refine ⟨_, rfl, ?_⟩
  rw [decide_eq_true rfl, br_true]
  have h13 := hB1.same (m2.same s13).1
  refine cl (c19 (Hs.tb h13 ht)) ?_
  rintro _ w14 ⟨rfl, s14⟩
  refine ⟨_, rfl, fun _g => ?_⟩
  exact ⟨true, rfl, rfl, (h13.same s14).1⟩
end
end Go.Proofs.YtccffjlahpfdaaaDoor
