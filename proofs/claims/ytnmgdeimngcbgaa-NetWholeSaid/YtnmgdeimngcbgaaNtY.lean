/- Own text: part of the shallow reading of the code and of the contracts that are proved over it. -/
import Derived.Test.YtnmgdeimngcbgaaNtX
namespace Go.Proofs.Ytnmgdeimngcbgaa
open Go Go.Sh
section
variable {W w : World} {b : Nat} {n : NT} {d : RD} {L M : List HP} {r : RP} {l : RL} {A B C : HP}
/-! a packet is taken out of the reference's lane -/
theorem r48' (h : Hs W (rcell d :: rrow d :: roff d :: rpRow r :: rlRow l :: M) w) {e p : Int} (hp : (d.rows.map rpV)[p.toNat]? = some (rpV r)) (he : r.ls[e.toNat]? = some l) (h0 : 0 ≤ p) (h1 : p < (d.rows.length : Int)) (h2 : r.ls.length = 2) (e0 : 0 ≤ e) (e1 : e < 2) (hm : l.ps.length ≤ 4096) {i : Nat} {pk : Pk} (hpk : l.ps[i]? = some pk) :
    Calls Try.prog 48 #[.pointer (some ⟨d.b, 0, none⟩), .int .i64 e, .int .i64 p, .int .i64 (i : Int)] w
    (rt fun v w' => v = .slice pk.a pk.bytes.length pk.c ∧ ∃ a c, Hs W (rcell d :: rrow d :: roff d :: rpRow { r with ls := r.ls.set e.toNat { l with a := a, c := c, ps := l.ps.eraseIdx i } } :: rlRow { l with a := a, c := c, ps := l.ps.eraseIdx i } :: M) w') := by
  have hi := (List.getElem?_eq_some_iff.1 hpk).1
  obtain ⟨g1, g2, g3, g4, g5⟩ := pksV_at hpk
  refine F48_ok ?_
  unfold F48
  simp only [rdP_mk, rdI_mk, nn_some, add_mk]
  refine to_lane h hp h0 h1 h2 e0 e1 fun ad ha => ?_
  simp only [add_add]
  refine ldC_c (cells_in h ha he rfl) ?_
  have hr := h.rd 4 rfl
  obtain ⟨bd, hb⟩ := hr.some (by rw [pksV_length]; omega)
  rw [hb] at hr ⊢
  refine ixS_of (by omega) (by omega) ?_
  simp only [Int.toNat_natCast, add_add]
  refine ldC_c (hr.at g5) ?_
  unfold drw
  have h3 := h.drew
  have z3 : w.drew.heap.size = w.heap.size := rfl
  generalize w.drew = w3 at h3 z3 ⊢
  have c0 : w3.cell? (ad.add (e.toNat * 5 + 0)) = some (.slice l.a l.ps.length l.c) := cells_in h3 ha he rfl
  rw [hb] at c0
  have o3 := h3.own 4 rfl
  rw [hb] at o3
  have hle := o3.le
  refine ldC_c c0 (slS_hi (by omega) (ldC_c c0 ?_))
  have ew : IntKind.wrap .i64 ((i : Int) + 1) = ((i + 1 : Nat) : Int) := by rw [wrap_i64 (by omega) (by omega)]; omega
  rw [ew]
  obtain ⟨bt, hbt, ht⟩ := o3.tail (j := i + 1) (by omega)
  refine slS_lo (by omega) ?_
  rw [hbt]
  refine ⟨_, _, _, _, run_b96 w3, Pres.alloc _ _, ?_⟩
  have h4 := h3.void 102 5
  have f4 : Same w3 (w3.alloc (.cells #[] 102)) := (Fr.refl w3).alloc _
  have hn4 : ∀ k, inB (some (Addr.mk w3.heap.size 0 none)) k → w3.heap.size ≤ k := by
    rintro k ⟨_, e, rfl⟩; cases e; exact Nat.le_refl _
  generalize w3.alloc (.cells #[] 102) = w4 at h4 f4 ⊢
  have t1 : Rd w4 (some bd) (pksV (l.ps.take i)) := by
    rw [← pksV_take]
    exact ((o3.fr f4 fun _ _ x => x).cut (n := i) (by omega)).rd
  have t2 : Rd w4 (some bt) (pksV (l.ps.drop (i + 1))) := by
    rw [← pksV_drop]
    exact Rd.same ht f4
  refine h4.append E96 0 rfl (by rw [pksV_length, List.length_take]; omega) t1 (pkV_one _) (by omega) (by omega) ?_
  intro a1 c1 w5 h5 f5
  have s5 : Same w3 w5 := ((f4.mono (S' := fun k => w3.heap.size ≤ k) fun _ _ x => x.elim).trans f5 fun k _ hk => hn4 k hk).mono fun k hk x => by omega
  refine ⟨Pres.of_Same s5, ?_⟩
  refine h5.append E96 0 rfl (m := l.ps.length - (i + 1)) (by rw [pksV_length, List.length_drop]) (by rw [← pksV_drop]; exact Rd.same ht s5) (pkV_one _) (by omega) (by omega) ?_
  intro a2 c2 w6 h6 _
  have h7 : Hs W (rcell d :: rrow d :: roff d :: rpRow r :: slP 102 5 a2 (0 + i + (l.ps.length - (i + 1))) c2 ([] ++ pksV (l.ps.take i) ++ pksV (l.ps.drop (i + 1))) :: M) w6 := Hs.r5 (h6.erase 5)
  refine lane_put h7 ha he (l' := { l with a := a2, c := c2, ps := l.ps.eraseIdx i }) (by decide) ?_ fun w8 h8 => ?_
  · have : (l.ps.eraseIdx i).length = 0 + i + (l.ps.length - (i + 1)) := by rw [List.length_eraseIdx]; simp [hi]; omega
    simp [rlC, this]
  · refine ⟨rfl, a2, c2, ?_⟩
    have e5 : rlRow { l with a := a2, c := c2, ps := l.ps.eraseIdx i } = slP 102 5 a2 (0 + i + (l.ps.length - (i + 1))) c2 ([] ++ pksV (l.ps.take i) ++ pksV (l.ps.drop (i + 1))) := by
      have : (l.ps.eraseIdx i).length = 0 + i + (l.ps.length - (i + 1)) := by rw [List.length_eraseIdx]; simp [hi]; omega
      unfold rlRow
      simp only [this]
      rw [List.eraseIdx_eq_take_drop_succ, pksV_append]
      rfl
    rw [e5]
    exact h8
theorem has_of {n : NT} {e p i : Int} (h : n.atCode e p i = 0) : n.has e p := by
  unfold NT.atCode at h
  split at h
  · assumption
  · cases h
theorem at_of {n : NT} {e p i : Int} (h : n.atCode e p i = 0) : ∃ j : Nat, i = j ∧ j < n.many e p := by
  unfold NT.atCode at h
  split at h
  · split at h
    · cases h
    · exact ⟨i.toNat, by omega, by omega⟩
  · cases h
theorem upd_abs {k : Nat} {l : LN} {n : NT} (h : n.lanes[k]? = some l) (f : LN → LN) : n.upd k f = { n with lanes := n.lanes.set k (f l) } := by unfold NT.upd; rw [h]
/-- back to the whole: one lane has turned -/
theorem ref_abs (ho : rdok d) {e p : Int} (hp : d.rows[p.toNat]? = some r) (he : r.ls[e.toNat]? = some l) (hi : idx e p = p.toNat * 2 + e.toNat) (e1 : e < 2) (e0 : 0 ≤ e) (l' : RL) (nx : Int) (of : List Bool) :
    ({ d with next := nx, off := of, rows := d.rows.set p.toNat { r with ls := r.ls.set e.toNat l' } } : RD).abs = { d.abs with lanes := d.abs.lanes.set (idx e p) l'.abs, next := nx, down := of } := by
  unfold RD.abs
  simp only
  rw [set_flat (fun r hr => (ho.2.2 r hr).1) hp he (by omega), hi]
theorem tail_move {X : List HP} {A B C D E : HP} {i : Nat} {pk : Pk} (hpk : l.ps[i]? = some pk) (h : Hs W (A :: B :: C :: D :: E :: ((L ++ X) ++ l.ps.map pkN)) w) : Hs W (A :: B :: C :: D :: E :: (((pkN pk :: L) ++ X) ++ (l.ps.eraseIdx i).map pkN)) w := by
  have h1 := Hs.part (M := A :: B :: C :: D :: E :: (L ++ X)) hpk h
  rw [← map_erase] at h1
  exact Hs.r6 h1
theorem set_row {e : Nat} {l1 l2 : RL} : ({ ({ r with ls := r.ls.set e l1 } : RP) with ls := (r.ls.set e l1).set e l2 } : RP) = { r with ls := r.ls.set e l2 } := by simp
theorem r27 (h : Hs W (refP b n :: L) w) (e p i : Int) : Calls Try.prog 27 #[.pointer (some ⟨b, 0, none⟩), .int .i64 e, .int .i64 p, .int .i64 i] w
    (rt fun v w' => ∃ a c, v = .tuple #[.slice a (n.got e p i).length c, .int .i64 (n.atCode e p i)] ∧ Hs W (slP 5 1 a (n.got e p i).length c (byV (n.got e p i)) :: refP b (n.dlv e p i) :: L) w') := by
  have h0 := h
  obtain ⟨d, rfl, rfl, g⟩ := refP_open.1 h
  replace h := g
  clear g
  refine F27_ok ?_
  unfold F27
  simp only [rdP_mk, rdI_mk]
  refine clr (r47' h e p i) ⟨_, rfl, ?_⟩
  by_cases hc : d.abs.atCode e p i = 0
  · obtain ⟨ho, _⟩ := rd_open.1 h
    obtain ⟨r, l, q1, q2, q3, q4, q5, q6, q7, q8, q9, q10⟩ := lane_in ho (has_of hc)
    obtain ⟨j, rfl, hj⟩ := at_of hc
    have hm : d.abs.many e p = l.ps.length := by unfold NT.many; rw [q3]; simp [RL.abs]
    rw [hm] at hj
    obtain ⟨pk, hpk⟩ : ∃ x, l.ps[j]? = some x := ⟨l.ps[j], by simp⟩
    have hel := (List.getElem?_eq_some_iff.1 q2).1
    have hgot : d.abs.got e p j = pk.bytes := by unfold NT.got NT.pkt; rw [if_pos hc, q3]; simp [RL.abs, hpk, Pk.abs]
    obtain ⟨_, X, h1, back⟩ := ref_focus h q1 q2
    have e00 : ((0 : Int) != 0) = false := rfl
    rw [hc, hgot]
    simp only [e00, br_false, nn_some, add_mk]
    refine to_lane h1 (map_at q1) q6 q7 q5 q8 q9 fun ad ha => ?_
    simp only [add_add, Nat.add_assoc, Nat.reduceAdd]
    refine ldI_c (cells_in h1 ha q2 rfl) (ixS_of q8 q9 ?_)
    simp only [add_add, Nat.add_assoc, Nat.reduceAdd]
    refine lane_put h1 ha q2 (l' := { l with del := inc l.del }) (by decide) rfl fun w2 h2 => ?_
    refine cl (r48' (r := { r with ls := r.ls.set e.toNat { l with del := inc l.del } }) (l := { l with del := inc l.del }) (e := e) (p := p) h2 (map_at (r := r) q1) (by simp [hel]) q6 q7 (by simpa using q5) q8 q9 q4.1 hpk) ?_
    rintro _ w3 ⟨rfl, a, c, h3⟩
    refine ⟨_, _, _, rfl, pk.a, pk.c, rfl, ?_⟩
    rw [set_row] at h3
    have h4 := tail_move hpk h3
    have h5 := back { l with del := inc l.del, a := a, c := c, ps := l.ps.eraseIdx j } d.next d.off (pkN pk :: L) w3 ⟨Nat.le_trans (List.length_eraseIdx_le _ _) q4.1, fun q hq => q4.2 q ((List.eraseIdx_sublist _ _).subset hq)⟩ rfl h4
    refine Hs.focus (i := 1) (L := refP d.b (d.abs.dlv e p j) :: pkN pk :: L) (refP_open.2 ⟨_, ?_, ?_, h5⟩) rfl
    · rfl
    · rw [ref_abs ho q1 q2 q10 q9 q8]
      unfold NT.dlv NT.deliver
      rw [if_pos hc, upd_abs q3]
      simp [RL.abs, map_erase, RD.abs]
  · have e00 : (d.abs.atCode e p i != 0) = true := by simpa using hc
    rw [e00, br_true]
    have e1 : d.abs.got e p i = [] := by unfold NT.got; rw [if_neg hc]
    have e2 : d.abs.dlv e p i = d.abs := by unfold NT.dlv; rw [if_neg hc]
    rw [e1, e2]
    exact ⟨none, 0, rfl, h0.nil 5 1⟩
theorem r28 (h : Hs W (refP b n :: L) w) (e p i : Int) : Calls Try.prog 28 #[.pointer (some ⟨b, 0, none⟩), .int .i64 e, .int .i64 p, .int .i64 i] w
    (rt fun v w' => v = .int .i64 (n.atCode e p i) ∧ Hs W (refP b (n.drp e p i) :: L) w') := by
  have h0 := h
  obtain ⟨d, rfl, rfl, g⟩ := refP_open.1 h
  replace h := g
  clear g
  refine F28_ok ?_
  unfold F28
  simp only [rdP_mk, rdI_mk]
  refine clr (r47' h e p i) ⟨_, rfl, ?_⟩
  by_cases hc : d.abs.atCode e p i = 0
  · obtain ⟨ho, _⟩ := rd_open.1 h
    obtain ⟨r, l, q1, q2, q3, q4, q5, q6, q7, q8, q9, q10⟩ := lane_in ho (has_of hc)
    obtain ⟨j, rfl, hj⟩ := at_of hc
    have hm : d.abs.many e p = l.ps.length := by unfold NT.many; rw [q3]; simp [RL.abs]
    rw [hm] at hj
    obtain ⟨pk, hpk⟩ : ∃ x, l.ps[j]? = some x := ⟨l.ps[j], by simp⟩
    have hel := (List.getElem?_eq_some_iff.1 q2).1
    obtain ⟨_, X, h1, back⟩ := ref_focus h q1 q2
    have e00 : ((0 : Int) != 0) = false := rfl
    rw [hc]
    simp only [e00, br_false, nn_some, add_mk]
    refine to_lane h1 (map_at q1) q6 q7 q5 q8 q9 fun ad ha => ?_
    simp only [add_add, Nat.add_assoc, Nat.reduceAdd]
    refine ldI_c (cells_in h1 ha q2 rfl) (ixS_of q8 q9 ?_)
    simp only [add_add, Nat.add_assoc, Nat.reduceAdd]
    refine lane_put h1 ha q2 (l' := { l with lost := inc l.lost }) (by decide) rfl fun w2 h2 => ?_
    refine cl (r48' (r := { r with ls := r.ls.set e.toNat { l with lost := inc l.lost } }) (l := { l with lost := inc l.lost }) (e := e) (p := p) h2 (map_at (r := r) q1) (by simp [hel]) q6 q7 (by simpa using q5) q8 q9 q4.1 hpk) ?_
    rintro _ w3 ⟨rfl, a, c, h3⟩
    refine ⟨_, _, _, rfl, trivial, ?_⟩
    rw [set_row] at h3
    have h4 := tail_move hpk h3
    have h5 := back { l with lost := inc l.lost, a := a, c := c, ps := l.ps.eraseIdx j } d.next d.off (pkN pk :: L) w3 ⟨Nat.le_trans (List.length_eraseIdx_le _ _) q4.1, fun q hq => q4.2 q ((List.eraseIdx_sublist _ _).subset hq)⟩ rfl h4
    refine Hs.erase (L := refP d.b (d.abs.drp e p j) :: pkN pk :: L) (refP_open.2 ⟨_, ?_, ?_, h5⟩) 1
    · rfl
    · rw [ref_abs ho q1 q2 q10 q9 q8]
      unfold NT.drp NT.drop
      rw [if_pos hc, upd_abs q3]
      simp [RL.abs, map_erase, RD.abs]
  · have e00 : (d.abs.atCode e p i != 0) = true := by simpa using hc
    rw [e00, br_true]
    have e2 : d.abs.drp e p i = d.abs := by unfold NT.drp; rw [if_neg hc]
    rw [e2]
    exact ⟨rfl, h0⟩
/-! what is told -/
theorem r37 (h : Hs W (refP b n :: L) w) (p : Int) : Calls Try.prog 37 #[.pointer (some ⟨b, 0, none⟩), .int .i64 p] w (rt (KR (.bool (n.works p)) w)) := by
  obtain ⟨d, rfl, rfl, g⟩ := refP_open.1 h
  replace h := g
  clear g
  refine F37_ok ?_
  unfold F37
  simp only [rdP_mk, rdI_mk]
  refine clr (r49' h 0 p) ⟨_, rfl, ?_⟩
  unfold NT.works
  by_cases hh : d.abs.has 0 p
  · rw [decide_eq_true hh, br_true, Bool.true_and]
    obtain ⟨ho, h1⟩ := rd_open.1 h
    obtain ⟨_, _, f0, f1⟩ := hh
    have f1' : p.toNat < d.off.length := by have : d.abs.down.length = d.off.length := rfl; omega
    simp only [nn_some, add_mk]
    refine h1.ldC 0 rfl rfl ?_
    have hr := h1.rd 2 rfl
    obtain ⟨ad, ha⟩ := hr.some (by simp; omega)
    rw [ha] at hr ⊢
    have hol := ho.1
    refine ixS_of f0 (by omega) ?_
    rw [Nat.mul_one]
    refine ldB_c (hr.at (u := .bool d.off[p.toNat]) (by simp [f1'])) ?_
    have : d.abs.isDown p = d.off[p.toNat] := by unfold NT.isDown RD.abs; simp [f1']
    rw [this]
    exact KR.mk _ _
  · rw [decide_eq_false hh, br_false, Bool.false_and]
    exact KR.mk _ _
theorem r39 (h : Hs W (refP b n :: L) w) (e p : Int) : Calls Try.prog 39 #[.pointer (some ⟨b, 0, none⟩), .int .i64 e, .int .i64 p] w
    (rt fun v w' => v = .tuple #[trV (n.trf e p), .int .i64 (n.err e p)] ∧ Hs W (refP b n :: L) w') := by
  have h0 := h
  obtain ⟨d, rfl, rfl, g⟩ := refP_open.1 h
  replace h := g
  clear g
  refine F39_ok ?_
  unfold F39
  simp only [rdP_mk, rdI_mk, add_mk]
  refine h.alc fun bo w1 h1 => ?_
  have h2 : Hs W (rdN d :: pt bo (.cells #[.int .i64 0, .int .i64 0, .int .i64 0, .int .i64 0] 48) :: L) w1 := h1.focus (i := 1) rfl
  refine clr (r49' h2 e p) ⟨_, rfl, ?_⟩
  by_cases hh : d.abs.has e p
  · obtain ⟨ho, _⟩ := rd_open.1 h
    obtain ⟨r, l, q1, q2, q3, q4, q5, q6, q7, q8, q9, q10⟩ := lane_in ho hh
    obtain ⟨_, X, h3, back⟩ := ref_focus h2 q1 q2
    have et : d.abs.trf e p = (l.sent, l.del, l.lost, l.forged) := by unfold NT.trf NT.err NT.traffic; rw [if_pos hh, if_pos rfl, q3]; rfl
    have ee : d.abs.err e p = 0 := by unfold NT.err; rw [if_pos hh]
    rw [decide_eq_true hh, Bool.not_true, br_false, et, ee]
    simp only [nn_some]
    refine to_lane h3 (map_at q1) q6 q7 q5 q8 q9 fun ad ha => ?_
    simp only [add_add, Nat.add_assoc, Nat.reduceAdd]
    refine ldI_c (cells_in h3 ha q2 rfl) (ldI_c (cells_in h3 ha q2 rfl) (ldI_c (cells_in h3 ha q2 rfl) (ldI_c (cells_in h3 ha q2 rfl) ?_)))
    refine h1.stc 0 rfl (by simp) fun w2 h4 => h4.stc 0 rfl (by simp) fun w3 h5 => h5.stc 0 rfl (by simp) fun w4 h6 => h6.stc 0 rfl (by simp) fun w5 h7 => ?_
    exact h7.ldI 0 rfl rfl (h7.ldI 0 rfl rfl (h7.ldI 0 rfl rfl (h7.ldI 0 rfl rfl ⟨rfl, refP_open.2 ⟨d, rfl, rfl, h7.erase 0⟩⟩)))
  · have et : d.abs.trf e p = (0, 0, 0, 0) := by unfold NT.trf NT.err; rw [if_neg hh, if_neg (by decide)]
    have ee : d.abs.err e p = 90 := by unfold NT.err; rw [if_neg hh]
    rw [decide_eq_false hh, Bool.not_false, br_true, et, ee]
    refine h1.stc 0 rfl (by simp) fun w2 h4 => h4.stc 0 rfl (by simp) fun w3 h5 => h5.stc 0 rfl (by simp) fun w4 h6 => h6.stc 0 rfl (by simp) fun w5 h7 => ?_
    exact h7.ldI 0 rfl rfl (h7.ldI 0 rfl rfl (h7.ldI 0 rfl rfl (h7.ldI 0 rfl rfl ⟨rfl, refP_open.2 ⟨d, rfl, rfl, h7.erase 0⟩⟩)))
end
end Go.Proofs.Ytnmgdeimngcbgaa
