/- Own text: part of the shallow reading of the code and of the contracts that are proved over it. -/
import Derived.Test.YtnmgdeimngcbgaaNtZ
namespace Go.Proofs.Ytnmgdeimngcbgaa
open Go Go.Sh
section
variable {W w : World} {b : Nat} {n : NT} {d : RD} {L M X : List HP} {r : RP} {l : RL} {A B C : HP} {a : Option Addr} {c : Nat} {bs : List Int}
theorem nilc {e : TypeId} {s l : Nat} {xs : List Value} (h : Hs W L w) (hm : slP e s a l c xs ∈ L) : a = none → c = 0 := by
  obtain ⟨i, hi⟩ := List.getElem?_of_mem hm
  rcases (h.own i hi).cases with ⟨_, _, hc⟩ | ⟨g, cur, ha, _⟩
  · exact fun _ => hc
  · intro h; rw [h] at ha; cases ha
theorem rpRow_same {e : Nat} {l' : RL} (he : r.ls[e]? = some l) (hv : rlC l' = rlC l) : rpRow { r with ls := r.ls.set e l' } = rpRow r := by
  unfold rpRow
  simp only
  congr 1
  rw [List.flatMap_def, List.flatMap_def, List.map_set, hv, set_id (by rw [List.getElem?_map, he]; rfl)]
/-! Twice and Spoil -/
theorem r29 (h : Hs W (refP b n :: L) w) (e p i : Int) : Calls Try.prog 29 #[.pointer (some ⟨b, 0, none⟩), .int .i64 e, .int .i64 p, .int .i64 i] w
    (rt fun v w' => v = .tuple #[.int .i64 (n.pid (n.twiceCode e p i)), .int .i64 (n.twiceCode e p i)] ∧ Hs W (refP b (n.twc e p i) :: L) w') := by
  have stay : ∀ c : Int, c ≠ 0 → n.twiceCode e p i = c → (.tuple #[.int .i64 0, .int .i64 c] : Value) = .tuple #[.int .i64 (n.pid (n.twiceCode e p i)), .int .i64 (n.twiceCode e p i)] ∧ Hs W (refP b (n.twc e p i) :: L) w := fun c hc e1 => by
    unfold NT.twc NT.pid
    rw [e1, if_neg hc, if_neg hc]
    exact ⟨rfl, h⟩
  obtain ⟨d, rfl, rfl, g⟩ := refP_open.1 h
  replace h := g
  clear g
  refine F29_ok ?_
  unfold F29
  simp only [rdP_mk, rdI_mk]
  refine clr (r47' h e p i) ⟨_, rfl, ?_⟩
  by_cases hc : d.abs.atCode e p i = 0
  · obtain ⟨ho, _⟩ := rd_open.1 h
    obtain ⟨r, l, q1, q2, q3, q4, q5, q6, q7, q8, q9, q10⟩ := lane_in ho (has_of hc)
    obtain ⟨j, rfl, hj⟩ := at_of hc
    have hm : d.abs.many e p = l.ps.length := by unfold NT.many; rw [q3]; simp [RL.abs]
    rw [hm] at hj
    obtain ⟨pk, hpk⟩ : ∃ x, l.ps[j]? = some x := ⟨l.ps[j], by simp⟩
    obtain ⟨g1, g2, g3, g4, g5⟩ := pksV_at hpk
    have hel := (List.getElem?_eq_some_iff.1 q2).1
    obtain ⟨_, X, h1, back⟩ := ref_focus h q1 q2
    have e00 : (d.abs.atCode e p j != 0) = false := by rw [hc]; rfl
    rw [e00, br_false]
    simp only [nn_some, add_mk]
    refine to_lane h1 (map_at q1) q6 q7 q5 q8 q9 fun ad ha => ?_
    simp only [add_add, Nat.add_assoc, Nat.reduceAdd, br_dec]
    have ct : d.abs.twiceCode e p j = if l.ps.length ≥ 4096 then 3 else 0 := by unfold NT.twiceCode; rw [if_pos hc, hm]
    refine ldC_c (cells_in h1 ha q2 rfl) ⟨fun hmm => stay 3 (by decide) (by rw [ct, if_pos (by omega)]), fun hmm => ?_⟩
    have c0 : d.abs.twiceCode e p j = 0 := by rw [ct, if_neg (by omega)]
    refine ldC_c (cells_in h1 ha q2 rfl) ?_
    have hr := h1.rd 4 rfl
    obtain ⟨bd, hb⟩ := hr.some (by rw [pksV_length]; omega)
    rw [hb] at hr ⊢
    refine ixS_of (by omega) (by omega) ?_
    simp only [Int.toNat_natCast, add_add]
    refine ldI_c (hr.at g1) (ldI_c (hr.at g2) (ldI_c (hr.at g3) (ldB_c (hr.at g4) (ldC_c (hr.at g5) ?_))))
    refine h1.alc fun bl w2 h2 => h2.stc 0 rfl (by simp) fun w3 h3 => h3.stc 0 rfl (by simp) fun w4 h4 => h4.stc 0 rfl (by simp) fun w5 h5 => h5.stc 0 rfl (by simp) fun w6 h6 => h6.stc 0 rfl (by simp) fun w7 h7 => ?_
    refine h7.ldI 1 rfl rfl (h7.stc 0 rfl (by simp) fun w8 h8 => h8.ldI 1 rfl rfl (h8.stc 1 rfl (by simp) fun w9 h9 => ?_))
    have h10 : Hs W (rcell { d with next := inc d.next } :: rrow d :: roff d :: rpRow r :: pt bl (.cells #[.int .i64 d.next, .int .i64 pk.now, .int .i64 (pk.bytes.length : Int), .bool pk.forged, .slice pk.a pk.bytes.length pk.c] 102) :: rlRow l :: ((L ++ X) ++ l.ps.map pkN)) w9 := Hs.r5 h9
    clear h9 h8 h7 h6 h5 h4 h3 h2
    refine ldI_c (cells_in h10 ha q2 rfl) (lane_put h10 ha q2 (l' := { l with sent := inc l.sent }) (by decide) rfl fun w11 h11 => ?_)
    refine ⟨_, _, _, _, run_b0 w11, ?_⟩
    have h12 := h11.void 5 1
    generalize w11.alloc (.cells #[] 5) = w12 at h12 ⊢
    have hpm : slP 5 1 pk.a pk.bytes.length pk.c (byV pk.bytes) ∈ (slP 5 1 (some ⟨w11.heap.size, 0, none⟩) 0 0 [] :: rcell { d with next := inc d.next } :: rrow d :: roff d :: rpRow { r with ls := r.ls.set e.toNat { l with sent := inc l.sent } } :: pt bl (.cells #[.int .i64 d.next, .int .i64 pk.now, .int .i64 (pk.bytes.length : Int), .bool pk.forged, .slice pk.a pk.bytes.length pk.c] 102) :: rlRow l :: ((L ++ X) ++ l.ps.map pkN)) := by
      repeat (first | exact List.mem_append_right _ (List.mem_map.2 ⟨pk, List.mem_of_getElem? hpk, rfl⟩) | refine List.mem_cons_of_mem _ ?_)
    have hbl := q4.2 pk (List.mem_of_getElem? hpk)
    refine h12.ldC 5 rfl rfl ?_
    refine h12.appendA E23 0 rfl (by rw [byV_length]; omega) (h12.rdm hpm) (nilc h12 hpm) (byV_one _) (by omega) (by omega) ?_
    intro a5 c5 w13 h13 _
    refine h13.stc 5 rfl (by simp) fun w14 h14 => ?_
    simp only [Nat.zero_add, List.nil_append] at h14
    have h15 : Hs W (slP 5 1 a5 pk.bytes.length c5 (byV pk.bytes) :: rcell { d with next := inc d.next } :: rrow d :: roff d :: rpRow { r with ls := r.ls.set e.toNat { l with sent := inc l.sent } } :: pt bl (.cells #[.int .i64 d.next, .int .i64 pk.now, .int .i64 (pk.bytes.length : Int), .bool pk.forged, .slice a5 pk.bytes.length c5] 102) :: slP 102 5 l.a l.ps.length l.c (pksV l.ps) :: ((L ++ X) ++ l.ps.map pkN)) w14 := h14
    clear h14 h13 h12 h11 hpm
    unfold drw alc
    have h16 := h15.drew
    generalize w14.drew = w15 at h16 ⊢
    have hel' : (r.ls.set e.toNat { l with sent := inc l.sent })[e.toNat]? = some { l with sent := inc l.sent } := by simp [hel]
    refine ldC_c (cells_in (r := { r with ls := r.ls.set e.toNat { l with sent := inc l.sent } }) (h16.erase 0) ha hel' rfl) ?_
    refine h16.ldI 5 rfl rfl (h16.ldI 5 rfl rfl (h16.ldI 5 rfl rfl (h16.ldB 5 rfl rfl (h16.ldC 5 rfl rfl ⟨Pres.alloc _ _, ?_⟩))))
    refine h16.push E96 6 rfl (news := #[_, _, _, _, _]) rfl (by simp [Value.oneCell']) (by omega) (by omega) ?_
    intro a7 c7 w17 h17
    have h18 : Hs W (rcell { d with next := inc d.next } :: rrow d :: roff d :: rpRow { r with ls := r.ls.set e.toNat { l with sent := inc l.sent } } :: slP 5 1 a5 pk.bytes.length c5 (byV pk.bytes) :: pt bl (.cells #[.int .i64 d.next, .int .i64 pk.now, .int .i64 (pk.bytes.length : Int), .bool pk.forged, .slice a5 pk.bytes.length c5] 102) :: slP 102 5 a7 (l.ps.length + 1) c7 (pksV l.ps ++ [.int .i64 d.next, .int .i64 pk.now, .int .i64 (pk.bytes.length : Int), .bool pk.forged, .slice a5 pk.bytes.length c5]) :: ((L ++ X) ++ l.ps.map pkN)) w17 := Hs.r5 h17
    clear h17 h16
    refine lane_put (j := 0) (r := { r with ls := r.ls.set e.toNat { l with sent := inc l.sent } }) h18 ha hel' (l' := { l with sent := inc l.sent, a := a7, c := c7, ps := l.ps ++ [{ pk with id := d.next, a := a5, c := c5 }] }) (by decide) (by simp [rlC]) fun w19 h19 => ?_
    refine h19.ldI 5 rfl rfl ⟨?_, ?_⟩
    · unfold NT.pid; rw [c0, if_pos rfl]; rfl
    · simp only [List.set_set] at h19
      have h20 := back { l with sent := inc l.sent, a := a7, c := c7, ps := l.ps ++ [{ pk with id := d.next, a := a5, c := c5 }] } (inc d.next) d.off L w19 ⟨by simp; omega, fun q hq => ?_⟩ rfl ?_
      · refine refP_open.2 ⟨_, ?_, ?_, h20⟩
        · rfl
        · rw [ref_abs ho q1 q2 q10 q9 q8]
          unfold NT.twc NT.dup
          rw [if_pos c0, upd_abs q3]
          simp [RD.abs, RL.abs, hpk, Pk.abs]
      · rcases List.mem_append.1 hq with hq | hq
        · exact q4.2 q hq
        · simp at hq; subst hq; exact hbl
      · have e1 : rlRow { l with sent := inc l.sent, a := a7, c := c7, ps := l.ps ++ [{ pk with id := d.next, a := a5, c := c5 }] } = slP 102 5 a7 (l.ps.length + 1) c7 (pksV l.ps ++ [.int .i64 d.next, .int .i64 pk.now, .int .i64 (pk.bytes.length : Int), .bool pk.forged, .slice a5 pk.bytes.length c5]) := by simp [rlRow, pksV, pkV]
        have e2 : (l.ps ++ [{ pk with id := d.next, a := a5, c := c5 }]).map pkN = l.ps.map pkN ++ [slP 5 1 a5 pk.bytes.length c5 (byV pk.bytes)] := by simp [pkN]
        rw [e1]
        simp only [e2]
        have h21 := h19.erase 5
        refine h21.perm (List.Perm.cons _ (List.Perm.cons _ (List.Perm.cons _ (List.Perm.cons _ ?_))))
        refine (List.Perm.swap _ _ _).trans (List.Perm.cons _ ?_)
        rw [← List.append_assoc]
        exact List.perm_append_comm (l₁ := [_])
  · have e00 : (d.abs.atCode e p i != 0) = true := by simpa using hc
    rw [e00, br_true]
    exact stay _ hc (by unfold NT.twiceCode; rw [if_neg hc])
theorem r30 (h : Hs W (refP b n :: L) w) (e p i x bits : Int) : Calls Try.prog 30 #[.pointer (some ⟨b, 0, none⟩), .int .i64 e, .int .i64 p, .int .i64 i, .int .i64 x, .int .u8 bits] w
    (rt fun v w' => v = .int .i64 (n.splCode e p i x) ∧ Hs W (refP b (n.spl e p i x bits) :: L) w') := by
  have stay : ∀ c : Int, c ≠ 0 → n.splCode e p i x = c → (.int .i64 c : Value) = .int .i64 (n.splCode e p i x) ∧ Hs W (refP b (n.spl e p i x bits) :: L) w := fun c hc e1 => by
    unfold NT.spl
    rw [e1, if_neg hc]
    exact ⟨rfl, h⟩
  obtain ⟨d, rfl, rfl, g⟩ := refP_open.1 h
  replace h := g
  clear g
  refine F30_ok ?_
  unfold F30
  simp only [rdP_mk, rdI_mk]
  refine clr (r47' h e p i) ⟨_, rfl, ?_⟩
  by_cases hc : d.abs.atCode e p i = 0
  · obtain ⟨ho, _⟩ := rd_open.1 h
    obtain ⟨r, l, q1, q2, q3, q4, q5, q6, q7, q8, q9, q10⟩ := lane_in ho (has_of hc)
    obtain ⟨j, rfl, hj⟩ := at_of hc
    have hm : d.abs.many e p = l.ps.length := by unfold NT.many; rw [q3]; simp [RL.abs]
    rw [hm] at hj
    obtain ⟨pk, hpk⟩ : ∃ x, l.ps[j]? = some x := ⟨l.ps[j], by simp⟩
    obtain ⟨g1, g2, g3, g4, g5⟩ := pksV_at hpk
    have hel := (List.getElem?_eq_some_iff.1 q2).1
    have hpkt : d.abs.pkt e p j = pk.bytes := by unfold NT.pkt; rw [q3]; simp [RL.abs, hpk, Pk.abs]
    have cs : d.abs.splCode e p j x = if 0 ≤ x ∧ x < (pk.bytes.length : Int) then 0 else 92 := by unfold NT.splCode; rw [if_pos hc, hpkt]
    obtain ⟨_, X, h1, back⟩ := ref_focus h q1 q2
    have e00 : (d.abs.atCode e p j != 0) = false := by rw [hc]; rfl
    rw [e00, br_false]
    simp only [nn_some, add_mk]
    refine to_lane h1 (map_at q1) q6 q7 q5 q8 q9 fun ad ha => ?_
    simp only [add_add, Nat.add_assoc, Nat.reduceAdd, br_dec]
    refine ldC_c (cells_in h1 ha q2 rfl) ?_
    have hr := h1.rd 4 rfl
    obtain ⟨bd, hb⟩ := hr.some (by rw [pksV_length]; omega)
    rw [hb] at hr ⊢
    refine ixS_of (by omega) (by omega) ?_
    simp only [Int.toNat_natCast, add_add]
    refine ldC_c (hr.at g5) ⟨fun hx => stay 92 (by decide) (by rw [cs, if_neg (by omega)]), fun hx => ⟨fun hx2 => stay 92 (by decide) (by rw [cs, if_neg (by omega)]), fun hx2 => ?_⟩⟩
    have hin : 0 ≤ x ∧ x < (pk.bytes.length : Int) := ⟨by omega, by omega⟩
    have c0 : d.abs.splCode e p j x = 0 := by rw [cs, if_pos hin]
    unfold F30_1
    simp only [rdI_mk, rdC_mk]
    have h2 := Hs.part (M := rcell d :: rrow d :: roff d :: rpRow r :: rlRow l :: (L ++ X)) hpk h1
    have hb2 := h2.rd 0 rfl
    obtain ⟨ub, hub⟩ := hb2.some (by rw [byV_length]; omega)
    obtain ⟨y, hy⟩ : ∃ y, pk.bytes[x.toNat]? = some y := ⟨pk.bytes[x.toNat]'(by omega), by simp⟩
    have hlt : x.toNat < pk.bytes.length := by omega
    rw [hub] at hb2 ⊢
    refine ixS_of hin.1 hin.2 (ldI_c (n := y) ?_ (ixS_of hin.1 hin.2 ?_))
    · rw [Nat.mul_one]; exact hb2.at (by simp [byV, hy])
    rw [Nat.mul_one]
    have e1 : pkN pk = slP 5 1 (some ub) pk.bytes.length pk.c (byV pk.bytes) := by unfold pkN; rw [hub]
    rw [e1] at h2
    refine h2.put 0 rfl (by rw [byV_length]; omega) fun w3 h3 _g => ?_
    have hby : (byV pk.bytes).set x.toNat (.int .u8 (bitI .xor .u8 y bits)) = byV (pk.bytes.modify x.toNat (xorB · bits)) := by
      unfold byV
      apply List.ext_getElem?
      intro k
      by_cases hk : x.toNat = k
      · subst hk; simp [hlt, (List.getElem?_eq_some_iff.1 hy).2, xorB]
      · simp [hk]
    obtain ⟨pk', hpk'⟩ : ∃ q : Pk, q = { pk with bytes := pk.bytes.modify x.toNat (xorB · bits) } := ⟨_, rfl⟩
    have e2 : pkN pk' = slP 5 1 (some ub) pk.bytes.length pk.c ((byV pk.bytes).set x.toNat (.int .u8 (bitI .xor .u8 y bits))) := by
      rw [hpk']; unfold pkN; simp only [List.length_modify, hby, hub]
    have h4 : Hs W (pkN pk' :: ((rcell d :: rrow d :: roff d :: rpRow r :: rlRow l :: (L ++ X)) ++ (l.ps.map pkN).eraseIdx j)) w3 := by rw [e2]; exact h3
    have h5 := Hs.unpart hj h4
    have hV : pkV pk' = pkV pk := by rw [hpk']; simp [pkV]
    have hpv : pksV (l.ps.set j pk') = pksV l.ps := by
      rw [set_split hpk]
      conv => rhs; rw [split_at hpk]
      simp [pksV, hV]
    have e3 : rlC { l with ps := l.ps.set j pk' } = rlC l := by simp [rlC]
    have e4 : rlRow { l with ps := l.ps.set j pk' } = rlRow l := by unfold rlRow; simp only [List.length_set, hpv]
    rw [c0]
    refine ⟨rfl, ?_⟩
    have h6 := back { l with ps := l.ps.set j pk' } d.next d.off L w3 ⟨by simpa using q4.1, fun q hq => ?_⟩ rfl (by rw [rpRow_same q2 e3, e4]; exact h5)
    · refine refP_open.2 ⟨_, ?_, ?_, h6⟩
      · rfl
      · rw [ref_abs ho q1 q2 q10 q9 q8]
        unfold NT.spl
        rw [if_pos c0, upd_abs q3]
        have e5 : (l.ps.set j pk').map Pk.abs = (l.ps.map Pk.abs).modify j fun q => { q with bytes := q.bytes.modify x.toNat (xorB · bits) } := by
          apply List.ext_getElem?
          intro k
          by_cases hk : j = k
          · subst hk; simp [hj, (List.getElem?_eq_some_iff.1 hpk).2, Pk.abs, hpk']
          · simp [hk]
        simp [RD.abs, RL.abs, e5]
    · rcases List.mem_or_eq_of_mem_set hq with hq | rfl
      · exact q4.2 q hq
      · rw [hpk']; simpa using q4.2 pk (List.mem_of_getElem? hpk)
  · have e00 : (d.abs.atCode e p i != 0) = true := by simpa using hc
    rw [e00, br_true]
    exact stay _ hc (by unfold NT.splCode; rw [if_neg hc])
end
end Go.Proofs.Ytnmgdeimngcbgaa
