/- Own text: part of the shallow reading of the code and of the contracts that are proved over it. -/
import Derived.Test.YtnmgdeimngcbgaaNuA
namespace Go.Proofs.Ytnmgdeimngcbgaa
open Go Go.Sh
section
variable {W w : World} {b : Nat} {n : NT} {d : RD} {L M X : List HP} {r : RP} {l : RL}
/-! Down, Up -/
theorem off_put (h : Hs W (rdN d :: L) w) {p : Int} (h0 : 0 ≤ p) (h1 : p < (d.rows.length : Int)) (v : Bool) {K : World → Prop}
    (hk : ∀ w', Hs W (rdN { d with off := d.off.set p.toNat v } :: L) w' → K w') : ldC ⟨d.b, 0 + 1, none⟩ w fun l7a l7n l7c => ixS 1 l7a l7n p fun a8 => stc a8 (.bool v) w K := by
  obtain ⟨ho, h2⟩ := rd_open.1 h
  have hol := ho.1
  refine h2.ldC 0 rfl rfl ?_
  have hr := h2.rd 2 rfl
  obtain ⟨ad, ha⟩ := hr.some (by simp; omega)
  rw [ha]
  refine ixS_of h0 h1 ?_
  rw [Nat.mul_one]
  have e1 : roff d = slP 4 1 (some ad) d.rows.length d.oc (d.off.map Value.bool) := by unfold roff; rw [ha]
  rw [e1] at h2
  refine h2.put 2 rfl (by simp; omega) fun w' h3 => hk w' (rd_open.2 ⟨⟨by simpa using ho.1, ho.2⟩, ?_⟩)
  have e2 : roff { d with off := d.off.set p.toNat v } = slP 4 1 (some ad) d.rows.length d.oc ((d.off.map Value.bool).set p.toNat (.bool v)) := by unfold roff; simp only [ha, List.map_set]
  rw [e2]
  exact h3
theorem lose_abs (l : RL) : ({ l with lost := IntKind.wrap .i64 (l.lost + l.ps.length), a := none, c := 0, ps := [] } : RL).abs = l.abs.lose := by simp [RL.abs, LN.lose]
theorem r31_iter {R : Value → Value → Value → World → Prop} {K0 : World → Prop} (h : Hs W (rdN d :: L) w) {e p : Int} (hh : d.abs.has e p) (he2 : e < 2)
    (hk : ∀ d' w', d'.b = d.b → d'.abs = d.abs.upd (idx e p) LN.lose → d'.rows.length = d.rows.length → Hs W (rdN d' :: L) w' → R (.pointer (some ⟨d.b, 0, none⟩)) (.int .i64 p) (.int .i64 (e + 1)) w') :
    F31_1B R K0 (.pointer (some ⟨d.b, 0, none⟩)) (.int .i64 p) (.int .i64 e) w := by
  obtain ⟨ho, _⟩ := rd_open.1 h
  obtain ⟨r, l, q1, q2, q3, q4, q5, q6, q7, q8, q9, q10⟩ := lane_in ho hh
  obtain ⟨_, X, h1, back⟩ := ref_focus h q1 q2
  have hel := (List.getElem?_eq_some_iff.1 q2).1
  unfold F31_1B
  simp only [rdP_mk, rdI_mk, br_dec, nn_some, add_mk]
  refine ⟨fun _ => ?_, fun hx => by exfalso; omega⟩
  refine to_lane h1 (map_at q1) q6 q7 q5 q8 q9 fun ad ha => ?_
  simp only [add_add, Nat.add_assoc, Nat.reduceAdd]
  unfold drw
  have h2 := h1.drew
  generalize w.drew = w2 at h2 ⊢
  refine ldI_c (cells_in h2 ha q2 rfl) (ldC_c (cells_in h2 ha q2 rfl) (lane_put h2 ha q2 (l' := { l with lost := IntKind.wrap .i64 (l.lost + l.ps.length) }) (by decide) rfl fun w3 h3 => ?_))
  have hel' : (r.ls.set e.toNat { l with lost := IntKind.wrap .i64 (l.lost + l.ps.length) })[e.toNat]? = some { l with lost := IntKind.wrap .i64 (l.lost + l.ps.length) } := by simp [hel]
  refine lane_put (j := 0) (r := { r with ls := r.ls.set e.toNat { l with lost := IntKind.wrap .i64 (l.lost + l.ps.length) } }) h3 ha hel' (l' := { l with lost := IntKind.wrap .i64 (l.lost + l.ps.length), a := none, c := 0, ps := [] }) (by decide) (by simp [rlC]) fun w4 h4 => ?_
  simp only [List.set_set] at h4
  have ew : IntKind.wrap .i64 (e + 1) = e + 1 := wrap_i64 (by omega) (by omega)
  rw [ew]
  have h5 : Hs W (rlRow { l with lost := IntKind.wrap .i64 (l.lost + l.ps.length), a := none, c := 0, ps := [] } :: rcell d :: rrow d :: roff d :: rpRow { r with ls := r.ls.set e.toNat { l with lost := IntKind.wrap .i64 (l.lost + l.ps.length), a := none, c := 0, ps := [] } } :: ((L ++ X) ++ l.ps.map pkN)) w4 := (h4.erase 4).nil 102 5
  have h6 := Hs.r5 h5
  have h7 : Hs W (rcell d :: rrow d :: roff d :: rpRow { r with ls := r.ls.set e.toNat { l with lost := IntKind.wrap .i64 (l.lost + l.ps.length), a := none, c := 0, ps := [] } } :: rlRow { l with lost := IntKind.wrap .i64 (l.lost + l.ps.length), a := none, c := 0, ps := [] } :: ((L ++ X) ++ [])) w4 := by
    rw [List.append_nil]
    have : ∀ (A B C D E : HP) (Y Z : List HP), Hs W (A :: B :: C :: D :: E :: (Y ++ Z)) w4 → Hs W (A :: B :: C :: D :: E :: Y) w4 := by
      intro A B C D E Y Z hz
      have hz' := hz.perm (show (A :: B :: C :: D :: E :: (Y ++ Z)).Perm (Z ++ (A :: B :: C :: D :: E :: Y)) from List.perm_append_comm (l₁ := A :: B :: C :: D :: E :: Y) (l₂ := Z))
      clear hz
      induction Z with
      | nil => exact hz'
      | cons z Z ih => exact ih hz'.drop
    exact this _ _ _ _ _ _ _ h6
  have h8 := back { l with lost := IntKind.wrap .i64 (l.lost + l.ps.length), a := none, c := 0, ps := [] } d.next d.off L w4 ⟨by simp, by simp⟩ rfl h7
  refine hk _ w4 ?_ ?_ ?_ h8
  · rfl
  · rw [ref_abs ho q1 q2 q10 q9 q8, upd_abs q3, lose_abs]
    rfl
  · simp
theorem has_upd {n : NT} {k : Nat} {f : LN → LN} {e p : Int} : (n.upd k f).has e p ↔ n.has e p := by
  unfold NT.upd
  split <;> exact Iff.rfl
theorem r31 (h : Hs W (refP b n :: L) w) (p : Int) : Calls Try.prog 31 #[.pointer (some ⟨b, 0, none⟩), .int .i64 p] w
    (rt fun v w' => v = .int .i64 (n.err 0 p) ∧ Hs W (refP b (n.trn p true) :: L) w') := by
  have h0 := h
  obtain ⟨d, rfl, rfl, g⟩ := refP_open.1 h
  replace h := g
  clear g
  refine F31_ok ?_
  unfold F31
  simp only [rdP_mk, rdI_mk]
  refine clr (r49' h 0 p) ⟨_, rfl, ?_⟩
  by_cases hh : d.abs.has 0 p
  · obtain ⟨ho, _⟩ := rd_open.1 h
    have herr : d.abs.err 0 p = 0 := by unfold NT.err; rw [if_pos hh]
    have hh' := hh
    obtain ⟨_, _, p0, p1⟩ := hh'
    have p1' : p < (d.rows.length : Int) := by have := ho.1; have : d.abs.down.length = d.off.length := rfl; omega
    rw [decide_eq_true hh, Bool.not_true, br_false, herr]
    simp only [nn_some, add_mk]
    refine off_put h p0 p1' true fun w2 h2 => ⟨3, ?_⟩
    have hl2 : ({ d with off := d.off.set p.toNat true } : RD).abs = { d.abs with down := d.abs.down.set p.toNat true } := rfl
    have hh2 : ({ d with off := d.off.set p.toNat true } : RD).abs.has 0 p := by
      rw [hl2]; obtain ⟨a1, a2, a3, a4⟩ := hh; exact ⟨a1, a2, a3, by simpa using a4⟩
    have hh3 : ({ d with off := d.off.set p.toNat true } : RD).abs.has 1 p := by
      obtain ⟨a1, a2, a3, a4⟩ := hh2; exact ⟨by omega, by omega, a3, a4⟩
    show F31_1B _ _ _ _ _ _
    refine r31_iter h2 hh2 (by decide) fun d2 w3 b2 ab2 ll2 h3 => ?_
    show F31_1B _ _ _ _ _ _
    have hb2 : d2.b = d.b := b2
    have hx : d2.abs.has 1 p := by rw [ab2]; exact has_upd.2 hh3
    rw [show ({ d with off := d.off.set p.toNat true } : RD).b = d2.b from b2.symm]
    refine r31_iter (e := 1) h3 hx (by decide) fun d3 w4 b3 ab3 ll3 h4 => ?_
    show F31_1B _ _ _ _ _ _
    unfold F31_1B
    simp only [rdP_mk, rdI_mk, br_dec]
    refine ⟨fun hx => by exfalso; omega, fun _ _g => ⟨trivial, ?_⟩⟩
    refine refP_open.2 ⟨d3, by rw [b3, hb2], ?_, h4⟩
    rw [ab3, ab2, hl2]
    unfold NT.trn NT.turn NT.loseAll
    rw [herr, if_pos rfl]
    rfl
  · have herr : d.abs.err 0 p = 90 := by unfold NT.err; rw [if_neg hh]
    rw [decide_eq_false hh, Bool.not_false, br_true, herr]
    have : d.abs.trn p true = d.abs := by unfold NT.trn; rw [herr, if_neg (by decide)]
    rw [this]
    exact ⟨rfl, h0⟩
theorem r32 (h : Hs W (refP b n :: L) w) (p : Int) : Calls Try.prog 32 #[.pointer (some ⟨b, 0, none⟩), .int .i64 p] w
    (rt fun v w' => v = .int .i64 (n.err 0 p) ∧ Hs W (refP b (n.trn p false) :: L) w') := by
  have h0 := h
  obtain ⟨d, rfl, rfl, g⟩ := refP_open.1 h
  replace h := g
  clear g
  refine F32_ok ?_
  unfold F32
  simp only [rdP_mk, rdI_mk]
  refine clr (r49' h 0 p) ⟨_, rfl, ?_⟩
  by_cases hh : d.abs.has 0 p
  · obtain ⟨ho, _⟩ := rd_open.1 h
    have herr : d.abs.err 0 p = 0 := by unfold NT.err; rw [if_pos hh]
    obtain ⟨_, _, p0, p1⟩ := hh
    have p1' : p < (d.rows.length : Int) := by have := ho.1; have : d.abs.down.length = d.off.length := rfl; omega
    rw [decide_eq_true (show d.abs.has 0 p from ⟨by omega, by omega, p0, p1⟩), Bool.not_true, br_false, herr]
    simp only [nn_some, add_mk]
    refine off_put h p0 p1' false fun w2 h2 => ⟨trivial, refP_open.2 ⟨_, ?_, ?_, h2⟩⟩
    · rfl
    · unfold NT.trn NT.turn
      rw [herr, if_pos rfl, if_neg (by decide)]
      rfl
  · have herr : d.abs.err 0 p = 90 := by unfold NT.err; rw [if_neg hh]
    rw [decide_eq_false hh, Bool.not_false, br_true, herr]
    have : d.abs.trn p false = d.abs := by unfold NT.trn; rw [herr, if_neg (by decide)]
    rw [this]
    exact ⟨rfl, h0⟩
/-! Flying -/
theorem r38 (h : Hs W (refP b n :: L) w) (e p : Int) : Calls Try.prog 38 #[.pointer (some ⟨b, 0, none⟩), .int .i64 e, .int .i64 p] w
    (rt fun v w' => ∃ a c, v = .tuple #[.slice a (n.fl e p).length c, .int .i64 (n.err e p)] ∧ Hs W (slP 43 4 a (n.fl e p).length c (flV (n.fl e p)) :: refP b n :: L) w') := by
  have h0 := h
  obtain ⟨d, rfl, rfl, g⟩ := refP_open.1 h
  replace h := g
  clear g
  refine F38_ok ?_
  unfold F38
  simp only [rdP_mk, rdI_mk]
  refine clr (r49' h e p) ⟨_, rfl, ?_⟩
  by_cases hh : d.abs.has e p
  · obtain ⟨ho, _⟩ := rd_open.1 h
    obtain ⟨r, l, q1, q2, q3, q4, q5, q6, q7, q8, q9, q10⟩ := lane_in ho hh
    obtain ⟨_, X, h1, _⟩ := ref_focus h q1 q2
    have ee : d.abs.err e p = 0 := by unfold NT.err; rw [if_pos hh]
    have ef : d.abs.fl e p = l.ps.map Pk.abs := by unfold NT.fl NT.ps; rw [ee, if_pos rfl, q3]; rfl
    rw [decide_eq_true hh, Bool.not_true, br_false, ee, ef]
    simp only [nn_some, add_mk]
    refine to_lane h1 (map_at q1) q6 q7 q5 q8 q9 fun ad ha => ?_
    simp only [add_add]
    refine ldC_c (cells_in h1 ha q2 rfl) (ldI_c (cells_in h1 ha q2 rfl) (ldI_c (cells_in h1 ha q2 rfl) (ldI_c (cells_in h1 ha q2 rfl) (ldI_c (cells_in h1 ha q2 rfl) ?_))))
    have hrow := h1.rd 4 rfl
    refine h.alc fun bl w2 h2 => h2.stc 0 rfl (by simp) fun w3 h3 => h3.stc 0 rfl (by simp) fun w4 h4 => h4.stc 0 rfl (by simp) fun w5 h5 => h5.stc 0 rfl (by simp) fun w6 h6 => h6.stc 0 rfl (by simp) fun w7 h7 => ⟨l.ps.length + 1, ?_⟩
    have h8 : Hs W (pt bl (.cells #[.slice l.a l.ps.length l.c, .int .i64 l.sent, .int .i64 l.del, .int .i64 l.lost, .int .i64 l.forged] 98) :: rdN d :: L) w7 := h7
    have row_of : ∀ (P : HP) (Q : HP) w', Hs W (P :: Q :: rdN d :: L) w' → Rd w' l.a (pksV l.ps) := by
      intro P Q w' h'
      have h9 : Hs W (rdN d :: P :: Q :: L) w' := h'.focus (i := 2) rfl
      obtain ⟨_, X', h10, _⟩ := ref_focus h9 q1 q2
      exact h10.rd 4 rfl
    have loop : ∀ (i j : Nat) (w : World) (k : Nat) (a' : Option Addr) (m c' : Nat) (K0 : Value → World → Prop), j + i = l.ps.length → Hs W (slP 43 4 a' m c' (flV ((l.ps.take j).map Pk.abs)) :: pt bl (.cells #[.slice l.a l.ps.length l.c, .int .i64 l.sent, .int .i64 l.del, .int .i64 l.lost, .int .i64 l.forged] 98) :: rdN d :: L) w → i < k →
        (∀ w' a' c', Hs W (slP 43 4 a' l.ps.length c' (flV (l.ps.map Pk.abs)) :: pt bl (.cells #[.slice l.a l.ps.length l.c, .int .i64 l.sent, .int .i64 l.del, .int .i64 l.lost, .int .i64 l.forged] 98) :: rdN d :: L) w' → K0 (.slice a' l.ps.length c') w') →
        F38_1 K0 k (.slice a' m c') (.pointer (some ⟨bl, 0, none⟩)) (.int .i64 (j : Int)) w := by
      intro i
      induction i with
      | zero =>
        intro j w k a' m c' K0 hj hw hk hK
        obtain ⟨k, rfl⟩ : ∃ j, k = j + 1 := ⟨k - 1, by omega⟩
        show F38_1B _ _ _ _ _ _
        unfold F38_1B
        simp only [rdC_mk, rdA_mk, rdI_mk, add_mk]
        refine hw.ldC 1 rfl rfl ?_
        simp only [br_dec]
        refine ⟨fun h => by exfalso; omega, fun _ => ?_⟩
        rw [List.take_of_length_le (by omega)] at hw
        have hl : m = l.ps.length := by have := (hw.own 0 rfl).length; rw [flV_length, List.length_map] at this; omega
        subst hl
        exact hK w a' c' hw
      | succ i ih =>
        intro j w k a' m c' K0 hj hw hk hK
        obtain ⟨k, rfl⟩ : ∃ j, k = j + 1 := ⟨k - 1, by omega⟩
        show F38_1B _ _ _ _ _ _
        unfold F38_1B
        simp only [rdC_mk, rdA_mk, rdI_mk, add_mk]
        refine hw.ldC 1 rfl rfl ?_
        simp only [br_dec]
        refine ⟨fun _ => ?_, fun h => by exfalso; omega⟩
        refine hw.ldC 1 rfl rfl ?_
        obtain ⟨q, hq⟩ : ∃ x, l.ps[j]? = some x := ⟨l.ps[j]'(by omega), by simp⟩
        obtain ⟨g1, g2, g3, g4, g5⟩ := pksV_at hq
        have hr := row_of _ _ _ hw
        obtain ⟨bd, hb⟩ := hr.some (by rw [pksV_length]; omega)
        rw [hb] at hr ⊢
        refine ixS_of (by omega) (by omega) ?_
        simp only [Int.toNat_natCast, add_add, Nat.add_zero]
        refine ldI_c (hr.at g1) (ldI_c (hr.at g2) (ldI_c (hr.at g3) (ldB_c (hr.at g4) ?_)))
        unfold alc
        have hm : m = j := by have := (hw.own 0 rfl).length; rw [flV_length, List.length_map, List.length_take] at this; omega
        have := q4.1
        refine hw.push E39 0 rfl (news := #[_, _, _, _]) rfl (by simp [Value.oneCell']) (by omega) (by omega) ?_
        intro a2 c2 w3 h3
        have e1 : IntKind.wrap .i64 ((j : Int) + 1) = ((j + 1 : Nat) : Int) := by rw [wrap_i64 (by omega) (by omega)]; omega
        rw [e1]
        refine ih (j + 1) w3 k a2 (m + 1) c2 K0 (by omega) ?_ (by omega) hK
        rw [List.take_add_one, hq]
        simp only [Option.toList_some, List.map_append, List.map_cons, List.map_nil]
        rw [flV_snoc]
        exact h3
    refine loop l.ps.length 0 w7 _ none 0 0 _ (by omega) (h8.nil 43 4) (by omega) fun w' a' c' hw _g => ?_
    simp only [rdC_mk]
    refine ⟨a', c', by rw [List.length_map], ?_⟩
    rw [List.length_map]
    have h9 := hw.erase 1
    have h10 : Hs W (rdN d :: slP 43 4 a' l.ps.length c' (flV (l.ps.map Pk.abs)) :: L) w' := h9.focus (i := 1) rfl
    exact Hs.focus (i := 1) (L := refP d.b d.abs :: slP 43 4 a' l.ps.length c' (flV (l.ps.map Pk.abs)) :: L) (refP_open.2 ⟨d, rfl, rfl, h10⟩) rfl
  · have ee : d.abs.err e p = 90 := by unfold NT.err; rw [if_neg hh]
    have ef : d.abs.fl e p = [] := by unfold NT.fl; rw [ee, if_neg (by decide)]
    rw [decide_eq_false hh, Bool.not_false, br_true, ee, ef]
    exact ⟨none, 0, rfl, h0.nil 43 4⟩
/-! New -/
def rl0 : RL := ⟨none, 0, 0, 0, 0, 0, []⟩
theorem rlN0 : rlN rl0 = slP 102 5 none 0 0 [] := star_emp _
theorem two_rows : (madeCells (Value.agg #[.slice none 0 0, .int .i64 0, .int .i64 0, .int .i64 0, .int .i64 0]).cells (2 * 5)).toList = [rl0, rl0].flatMap rlC := by kernel_rfl
theorem r14_step (h : Hs W (rdN d :: L) w) {j : Nat} (hj : j < 8) (ha : d.abs = NT.new j) {K : World → Prop} (hk : ∀ d' w', d'.b = d.b → d'.abs = NT.new (j + 1) → Hs W (rdN d' :: L) w' → K w') :
    ldC ⟨d.b, 0 + 0, none⟩ w.drew fun l6a l6n l6c => ∃ l7a l7n l7c w8, Sem.run Try.prog (Instr.makeSlice 87 (.int .i64 2) (.int .i64 2)) w.drew = .ok (.slice l7a l7n l7c) w8 ∧ (Pres w.drew w8 ∧ (alc (.cells #[(.slice l7a l7n l7c)] 87) w8 fun b9 w10 => Pres w.drew w10 ∧ (∃ l11a l11n l11c w12, Sem.run Try.prog (Builtin.append_ #[35, 35] 35 #[(.slice l6a l6n l6c), (.slice (some (Addr.mk b9 0 none)) 1 1)]) w10 = .ok (.slice l11a l11n l11c) w12 ∧ (stc ⟨d.b, 0 + 0, none⟩ (.slice l11a l11n l11c) w12 fun w14 => ldC ⟨d.b, 0 + 1, none⟩ w14 fun l16a l16n l16c => alc (.cells #[(.bool false)] 4) w14 fun b17 w18 => ∃ l19a l19n l19c w20, Sem.run Try.prog (Builtin.append_ #[36, 36] 36 #[(.slice l16a l16n l16c), (.slice (some (Addr.mk b17 0 none)) 1 1)]) w18 = .ok (.slice l19a l19n l19c) w20 ∧ (stc ⟨d.b, 0 + 1, none⟩ (.slice l19a l19n l19c) w20 fun w22 => K w22))))) := by
  obtain ⟨ho, h1⟩ := rd_open.1 h
  have hab : d.rows.flatMap rpA = List.replicate (j * 2) LN.zero ∧ d.off = List.replicate j false ∧ d.next = 0 := by
    unfold RD.abs NT.new at ha
    simpa using ha
  have hol : d.off.length = j := by rw [hab.2.1]; simp
  have hrl : d.rows.length = j := by rw [← ho.1, hol]
  have h2 := h1.drew
  generalize w.drew = w2 at h2 ⊢
  refine h2.ldC 0 rfl rfl ?_
  refine h2.make E87 (n := 2) (by decide) (by decide) (by decide) fun a3 w3 h3 s3 => ⟨Pres.of_Same s3, ?_⟩
  rw [two_rows] at h3
  unfold alc
  refine ⟨Pres.of_Same (s3.trans ((Fr.refl w3).alloc _) fun _ _ x => x), ?_⟩
  refine h3.push E35 2 rfl (news := #[_]) rfl (by simp [Value.oneCell']) (by omega) (by omega) ?_
  intro a4 c4 w4 h4
  refine h4.stc 1 rfl (by simp) fun w5 h5 => h5.ldC 1 rfl rfl (h5.push E36 3 rfl (news := #[_]) rfl (by simp [Value.oneCell']) (by omega) (by omega) ?_)
  intro a6 c6 w6 h6
  refine h6.stc 1 rfl (by simp) fun w7 h7 => ?_
  have h8 : Hs W (slP 98 5 a3 2 2 ([rl0, rl0].flatMap rlC) :: pt d.b (.cells #[.slice a4 (d.rows.length + 1) c4, .slice a6 (d.rows.length + 1) c6, .int .i64 d.next] 38) :: slP 87 1 a4 (d.rows.length + 1) c4 (d.rows.map rpV ++ [.slice a3 2 2]) :: slP 4 1 a6 (d.rows.length + 1) c6 (d.off.map Value.bool ++ [.bool false]) :: (L ++ d.rows.map rpN)) w7 := h7
  clear h7 h6 h5 h4 h3
  refine hk { d with ra := a4, rc := c4, oa := a6, oc := c6, rows := d.rows ++ [⟨a3, 2, [rl0, rl0]⟩], off := d.off ++ [false] } w7 rfl ?_ (rd_open.2 ⟨⟨by simp [ho.1], by simp; omega, fun q hq => ?_⟩, ?_⟩)
  · unfold RD.abs NT.new
    simp only [List.flatMap_append, hab]
    have e1 : (j + 1) * 2 = j * 2 + 1 + 1 := by omega
    have e2 : [(⟨a3, 2, [rl0, rl0]⟩ : RP)].flatMap rpA = [LN.zero, LN.zero] := rfl
    rw [e1, List.replicate_succ', List.replicate_succ', List.replicate_succ', e2]
    simp
  · rcases List.mem_append.1 hq with hq | hq
    · exact ho.2.2 q hq
    · simp at hq; subst hq
      exact ⟨rfl, fun x hx => by simp at hx; subst hx; exact ⟨by simp [rl0], by simp [rl0]⟩⟩
  · have e1 : rcell { d with ra := a4, rc := c4, oa := a6, oc := c6, rows := d.rows ++ [⟨a3, 2, [rl0, rl0]⟩], off := d.off ++ [false] } = pt d.b (.cells #[.slice a4 (d.rows.length + 1) c4, .slice a6 (d.rows.length + 1) c6, .int .i64 d.next] 38) := by simp [rcell]
    have e2 : rrow { d with ra := a4, rc := c4, oa := a6, oc := c6, rows := d.rows ++ [⟨a3, 2, [rl0, rl0]⟩], off := d.off ++ [false] } = slP 87 1 a4 (d.rows.length + 1) c4 (d.rows.map rpV ++ [.slice a3 2 2]) := by simp [rrow, rpV]
    have e3 : roff { d with ra := a4, rc := c4, oa := a6, oc := c6, rows := d.rows ++ [⟨a3, 2, [rl0, rl0]⟩], off := d.off ++ [false] } = slP 4 1 a6 (d.rows.length + 1) c6 (d.off.map Value.bool ++ [.bool false]) := by simp [roff]
    have e4 : (d.rows ++ [(⟨a3, 2, [rl0, rl0]⟩ : RP)]).map rpN = d.rows.map rpN ++ [rpN ⟨a3, 2, [rl0, rl0]⟩] := by simp
    rw [e1, e2, e3]
    simp only [e4]
    have h9 := (h8.nil 102 5).nil 102 5
    have h10 : Hs W (rpN ⟨a3, 2, [rl0, rl0]⟩ :: pt d.b (.cells #[.slice a4 (d.rows.length + 1) c4, .slice a6 (d.rows.length + 1) c6, .int .i64 d.next] 38) :: slP 87 1 a4 (d.rows.length + 1) c4 (d.rows.map rpV ++ [.slice a3 2 2]) :: slP 4 1 a6 (d.rows.length + 1) c6 (d.off.map Value.bool ++ [.bool false]) :: (L ++ d.rows.map rpN)) w7 := by
      unfold rpN
      rw [Hs.cons_bigS]
      simp only [List.map_cons, List.map_nil, rlN0]
      exact h9.focus (i := 2) rfl
    refine h10.perm ?_
    rw [← List.append_assoc]
    exact (List.perm_append_comm (l₁ := [_]))
theorem r14 (h : Hs W L w) (m : Nat) (hm : 1 ≤ m ∧ m ≤ 8) : Calls Try.prog 14 #[.int .i64 (m : Int)] w (rt fun v w' => ∃ b, v = .tuple #[.pointer (some ⟨b, 0, none⟩), .int .i64 0] ∧ Hs W (refP b (NT.new m) :: L) w') := by
  refine F14_ok ?_
  unfold F14
  simp only [rdI_mk, br_dec]
  refine ⟨fun hx => by exfalso; omega, fun _ => ⟨fun hx => by exfalso; omega, fun _ => ?_⟩⟩
  unfold F14_2
  simp only [rdI_mk]
  refine h.alc fun b w1 h1 => ⟨m + 1, ?_⟩
  have h2 : Hs W (rdN ⟨b, none, 0, none, 0, 0, [], []⟩ :: L) w1 := by
    refine rd_open.2 ⟨⟨rfl, by simp, by simp⟩, ?_⟩
    have h3 := (h1.nil 87 1).nil 4 1
    have h4 : Hs W (pt b (.cells #[.slice none 0 0, .slice none 0 0, .int .i64 0] 38) :: slP 87 1 none 0 0 [] :: slP 4 1 none 0 0 [] :: L) w1 := (Hs.focus (i := 2) h3 rfl).perm ((List.Perm.swap _ _ _).cons _)
    simpa [rcell, rrow, roff] using h4
  have loop : ∀ (i j : Nat) (w2 : World) (k : Nat) (d : RD) (K0 : Value → World → Prop), j + i = m → d.abs = NT.new j → Hs W (rdN d :: L) w2 → i < k → (∀ d' w', d'.b = d.b → d'.abs = NT.new m → Hs W (rdN d' :: L) w' → K0 (.pointer (some ⟨d.b, 0, none⟩)) w') →
      F14_1 K0 k (.int .i64 (m : Int)) (.pointer (some ⟨d.b, 0, none⟩)) (.int .i64 (j : Int)) w2 := by
    intro i
    induction i with
    | zero =>
      intro j w2 k d K0 hj ha hw hk hK
      obtain ⟨k, rfl⟩ : ∃ j, k = j + 1 := ⟨k - 1, by omega⟩
      show F14_1B _ _ _ _ _ _
      unfold F14_1B
      simp only [rdP_mk, rdI_mk, br_dec]
      refine ⟨fun h => by exfalso; omega, fun _ => ?_⟩
      have : j = m := by omega
      subst this
      exact hK d w2 rfl ha hw
    | succ i ih =>
      intro j w2 k d K0 hj ha hw hk hK
      obtain ⟨k, rfl⟩ : ∃ j, k = j + 1 := ⟨k - 1, by omega⟩
      show F14_1B _ _ _ _ _ _
      unfold F14_1B drw
      simp only [rdP_mk, rdI_mk, br_dec, nn_some, add_mk]
      refine ⟨fun _ => ?_, fun h => by exfalso; omega⟩
      have e1 : IntKind.wrap .i64 ((j : Int) + 1) = ((j + 1 : Nat) : Int) := by rw [wrap_i64 (by omega) (by omega)]; omega
      rw [e1]
      refine r14_step hw (by omega) ha fun d' w' hb ha' h' => ?_
      have := ih (j + 1) w' k d' K0 (by omega) ha' h' (by omega) (by rw [hb]; exact hK)
      rw [hb] at this
      exact this
  refine loop m 0 w1 _ ⟨b, none, 0, none, 0, 0, [], []⟩ _ (by omega) rfl h2 (by omega) fun d' w' hb ha h' _g => ?_
  simp only [rdP_mk, rdI_mk]
  intro _g
  exact ⟨b, rfl, refP_open.2 ⟨d', hb, ha, h'⟩⟩
theorem r14_bad (m : Int) (hm : m < 1 ∨ 8 < m) (w : World) : Calls Try.prog 14 #[.int .i64 m] w (rt (KR (.tuple #[.pointer none, .int .i64 1]) w)) := by
  refine F14_ok ?_
  unfold F14
  simp only [rdI_mk, br_dec]
  exact ⟨fun _ => KR.mk _ _, fun h1 => ⟨fun _ => KR.mk _ _, fun h2 => by exfalso; omega⟩⟩
end
end Go.Proofs.Ytnmgdeimngcbgaa
