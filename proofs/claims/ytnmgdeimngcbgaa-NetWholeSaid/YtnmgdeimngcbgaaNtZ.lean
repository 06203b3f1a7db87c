/- Own text: part of the shallow reading of the code and of the contracts that are proved over it. -/
import Derived.Test.YtnmgdeimngcbgaaNtY
namespace Go.Proofs.Ytnmgdeimngcbgaa
open Go Go.Sh
section
variable {W w : World} {b : Nat} {n : NT} {d : RD} {L M X : List HP} {r : RP} {l : RL} {A B C : HP} {a : Option Addr} {c : Nat} {bs : List Int}
theorem byV_one (bs : List Int) : ∀ u ∈ byV bs, u.oneCell' = true := fun u hu => by
  obtain ⟨x, _, rfl⟩ := List.mem_map.1 hu
  rfl
theorem set_lane {e : Nat} (he : r.ls[e]? = some l) : ({ r with ls := r.ls.set e l } : RP) = r := by rw [set_id he]
theorem r46_fin (h : Hs W (rcell d :: rrow d :: roff d :: rpRow r :: rlRow l :: ((L ++ X) ++ l.ps.map pkN)) w) (hs : Src W L a c bs) {e p : Int} {dn : Bool} (h0 : 0 ≤ p) (h1 : p < (d.rows.length : Int)) (hdn : d.off[p.toNat]? = some dn) {ad : Addr} (ha : r.a = some ad) (he : r.ls[e.toNat]? = some l) (hok : rlok l) (hm : l.ps.length < 4096) (hl : bs.length ≤ 65536) {now id : Int} {f : Bool} {Kr : Value → Value → World → Prop}
    (hK : ∀ w' l', Hs W (rcell d :: rrow d :: roff d :: rpRow { r with ls := r.ls.set e.toNat l' } :: rlRow l' :: ((L ++ X) ++ l'.ps.map pkN)) w' → l'.abs = l.abs.put ⟨id, now, f, bs⟩ (!dn) → rlok l' → Kr (.int .i64 id) (.int .i64 0) w') :
    F46_1 Kr (.pointer (some ⟨d.b, 0, none⟩)) (.int .i64 p) (.slice a bs.length c) (.int .i64 now) (.bool f) (.pointer (some (ad.add (e.toNat * 5)))) (.int .i64 id) w := by
  have hel := (List.getElem?_eq_some_iff.1 he).1
  unfold F46_1
  simp only [rdP_mk, rdI_mk, rdC_mk, rdB_mk, nn_some, add_mk]
  refine h.ldC 0 rfl rfl ?_
  have hr := h.rd 2 rfl
  have hdl := (List.getElem?_eq_some_iff.1 hdn).1
  obtain ⟨od, ho⟩ := hr.some (by simp; omega)
  rw [ho] at hr ⊢
  refine ixS_of h0 h1 ?_
  rw [Nat.mul_one]
  refine ldB_c (hr.at (u := .bool dn) (by simp [hdn])) ?_
  cases dn with
  | true =>
    simp only [br_true, add_add, Nat.add_assoc, Nat.reduceAdd]
    refine ldI_c (cells_in h ha he rfl) (lane_put h ha he (l' := { l with lost := inc l.lost }) (by decide) rfl fun w2 h2 => ?_)
    exact hK w2 { l with lost := inc l.lost } h2 (by simp [RL.abs, LN.put]) hok
  | false =>
    simp only [br_false, add_add, Nat.add_assoc, Nat.reduceAdd]
    unfold drw
    have h3 := h.drew
    generalize w.drew = w3 at h3 ⊢
    have c0 : w3.cell? (ad.add (e.toNat * 5 + 0)) = some (.slice l.a l.ps.length l.c) := cells_in h3 ha he rfl
    refine ldC_c c0 ⟨_, _, _, _, run_b0 w3, Pres.alloc _ _, ?_⟩
    have h4 := h3.void 5 1
    have f4 : Same w3 (w3.alloc (.cells #[] 5)) := (Fr.refl w3).alloc _
    have hn4 : ∀ k, inB (some (Addr.mk w3.heap.size 0 none)) k → w3.heap.size ≤ k := by
      rintro k ⟨_, e, rfl⟩; cases e; exact Nat.le_refl _
    generalize w3.alloc (.cells #[] 5) = w4 at h4 f4 ⊢
    have hrd := hs.rd h4 (fun x hx => by simp [hx])
    refine h4.appendA E23 0 rfl (by rw [byV_length]; omega) hrd hs.1 (byV_one bs) (by omega) (by omega) ?_
    intro a5 c5 w5 h5 f5
    have s5 : Same w3 w5 := ((f4.mono (S' := fun k => w3.heap.size ≤ k) fun _ _ x => x.elim).trans f5 fun k _ hk => hn4 k hk).mono fun k hk x => by omega
    refine ⟨Pres.of_Same s5, ?_⟩
    unfold alc
    refine ⟨Pres.of_Same (s5.trans ((Fr.refl w5).alloc _) fun _ _ x => x), ?_⟩
    have h6 : Hs W (slP 5 1 a5 (0 + bs.length) c5 ([] ++ byV bs) :: rcell d :: rrow d :: roff d :: rpRow r :: rlRow l :: ((L ++ X) ++ l.ps.map pkN)) w5 := h5
    refine h6.push E96 5 rfl (news := #[_, _, _, _, _]) rfl (by simp [Value.oneCell']) (by omega) (by omega) ?_
    intro a7 c7 w7 h7
    have h8 : Hs W (rcell d :: rrow d :: roff d :: rpRow r :: slP 102 5 a7 (l.ps.length + 1) c7 (pksV l.ps ++ [.int .i64 id, .int .i64 now, .int .i64 (bs.length : Int), .bool f, .slice a5 (0 + bs.length) c5]) :: slP 5 1 a5 (0 + bs.length) c5 ([] ++ byV bs) :: ((L ++ X) ++ l.ps.map pkN)) w7 := Hs.r6 h7
    simp only [Nat.zero_add, List.nil_append] at h8
    refine lane_put (j := 0) h8 ha he (l' := { l with a := a7, c := c7, ps := l.ps ++ [⟨id, now, f, bs, a5, c5⟩] }) (by decide) (by simp [rlC]) fun w8 h9 => ?_
    refine hK w8 { l with a := a7, c := c7, ps := l.ps ++ [⟨id, now, f, bs, a5, c5⟩] } ?_ (by simp [RL.abs, LN.put, Pk.abs]) ⟨by simp; omega, fun q hq => ?_⟩
    · have e1 : rlRow { l with a := a7, c := c7, ps := l.ps ++ [⟨id, now, f, bs, a5, c5⟩] } = slP 102 5 a7 (l.ps.length + 1) c7 (pksV l.ps ++ [.int .i64 id, .int .i64 now, .int .i64 (bs.length : Int), .bool f, .slice a5 bs.length c5]) := by simp [rlRow, pksV, pkV]
      rw [e1]
      have e2 : (l.ps ++ [(⟨id, now, f, bs, a5, c5⟩ : Pk)]).map pkN = l.ps.map pkN ++ [slP 5 1 a5 bs.length c5 (byV bs)] := by simp [pkN]
      simp only [e2]
      refine h9.perm (List.Perm.cons _ (List.Perm.cons _ (List.Perm.cons _ (List.Perm.cons _ (List.Perm.cons _ ?_)))))
      rw [← List.append_assoc]
      exact List.perm_append_comm (l₁ := [_])
    · rcases List.mem_append.1 hq with hq | hq
      · exact hok.2 q hq
      · simp at hq; subst hq; exact hl
def RL.count (l : RL) (f : Bool) : RL := if f then { l with forged := inc l.forged } else { l with sent := inc l.sent }
theorem r46 (h : Hs W (refP b n :: L) w) (e p now : Int) (f : Bool) (hs : Src W L a c bs) :
    Calls Try.prog 46 #[.pointer (some ⟨b, 0, none⟩), .int .i64 e, .int .i64 p, .slice a bs.length c, .int .i64 now, .bool f] w (rt fun v w' => v = .tuple #[.int .i64 (n.pid (n.code e p now bs.length)), .int .i64 (n.code e p now bs.length)] ∧ Hs W (refP b (n.okCode e p now f bs) :: L) w') := by
  have stay : ∀ c : Int, c ≠ 0 → n.code e p now bs.length = c → (.tuple #[.int .i64 0, .int .i64 c] : Value) = .tuple #[.int .i64 (n.pid (n.code e p now bs.length)), .int .i64 (n.code e p now bs.length)] ∧ Hs W (refP b (n.okCode e p now f bs) :: L) w := fun c hc e1 => by
    unfold NT.okCode NT.pid
    rw [e1, if_neg hc, if_neg hc]
    exact ⟨rfl, h⟩
  obtain ⟨d, rfl, rfl, g⟩ := refP_open.1 h
  replace h := g
  clear g
  refine F46_ok ?_
  unfold F46
  simp only [rdP_mk, rdI_mk, rdC_mk, rdB_mk]
  refine clr (r49' h e p) ⟨_, rfl, ?_⟩
  by_cases hh : d.abs.has e p
  · obtain ⟨ho, _⟩ := rd_open.1 h
    obtain ⟨r, l, q1, q2, q3, q4, q5, q6, q7, q8, q9, q10⟩ := lane_in ho hh
    have hel := (List.getElem?_eq_some_iff.1 q2).1
    have hm : d.abs.many e p = l.ps.length := by unfold NT.many; rw [q3]; simp [RL.abs]
    obtain ⟨_, X, h1, back⟩ := ref_focus h q1 q2
    rw [decide_eq_true hh, Bool.not_true, br_false]
    simp only [br_dec]
    have c1 : (now < 0 ∨ now > 1099511627776) → d.abs.code e p now bs.length = 1 := fun hn => by unfold NT.code; rw [if_pos hh, if_pos hn]
    refine ⟨fun hn => stay 1 (by decide) (c1 (.inl hn)), fun hn => ⟨fun hn2 => stay 1 (by decide) (c1 (.inr hn2)), fun hn2 => ?_⟩⟩
    unfold F46_2
    simp only [rdP_mk, rdI_mk, rdC_mk, rdB_mk, br_dec, nn_some, add_mk]
    refine ⟨fun hl _g => stay 2 (by decide) (by unfold NT.code; rw [if_pos hh, if_neg (by omega), if_pos (by omega)]), fun hl => ?_⟩
    refine to_lane h1 (map_at q1) q6 q7 q5 q8 q9 fun ad ha => ?_
    simp only [add_add, Nat.add_assoc, Nat.reduceAdd]
    refine ldC_c (cells_in h1 ha q2 rfl) ⟨fun hmm _g => stay 3 (by decide) (by unfold NT.code; rw [if_pos hh, if_neg (by omega), if_neg (by omega), if_pos (by rw [hm]; omega)]), fun hmm => ?_⟩
    have c0 : d.abs.code e p now bs.length = 0 := by unfold NT.code; rw [if_pos hh, if_neg (by omega), if_neg (by omega), if_neg (by rw [hm]; omega)]
    refine h1.ldI 0 rfl rfl (h1.ldI 0 rfl rfl (h1.stc 0 rfl (by simp) fun w2 h2 => ?_))
    have h3 : Hs W (rcell { d with next := inc d.next } :: rrow d :: roff d :: rpRow r :: rlRow l :: ((L ++ X) ++ l.ps.map pkN)) w2 := h2
    obtain ⟨dn, hdn⟩ : ∃ x, d.off[p.toNat]? = some x := ⟨d.off[p.toNat]'(by have := ho.1; omega), by simp⟩
    have hdown : d.abs.isDown p = dn := by unfold NT.isDown RD.abs; simp [hdn]
    have fin : ∀ w3, Hs W (rcell { d with next := inc d.next } :: rrow d :: roff d :: rpRow { r with ls := r.ls.set e.toNat (l.count f) } :: rlRow (l.count f) :: ((L ++ X) ++ (l.count f).ps.map pkN)) w3 →
        ∀ {K : Value → World → Prop}, (∀ w', Hs W (refP d.b (d.abs.okCode e p now f bs) :: L) w' → K (.tuple #[.int .i64 d.next, .int .i64 0]) w') →
        F46_1 (fun y12_9 y13_9 w11 => ∀ _g12 : Tm, rdI .i64 y12_9 fun n13 => rdI .i64 y13_9 fun n14 => ∀ _g : Tm, K (.tuple #[(.int .i64 n13), (.int .i64 n14)]) w11) (.pointer (some ⟨d.b, 0, none⟩)) (.int .i64 p) (.slice a bs.length c) (.int .i64 now) (.bool f) (.pointer (some (ad.add (e.toNat * 5)))) (.int .i64 d.next) w3 := by
      intro w3 h4 K hK
      have hps : (l.count f).ps = l.ps := by unfold RL.count; cases f <;> rfl
      have hokc : rlok (l.count f) := by unfold rlok; rw [hps]; exact q4
      refine r46_fin (d := { d with next := inc d.next }) (r := { r with ls := r.ls.set e.toNat (l.count f) }) (l := l.count f) h4 hs q6 q7 hdn ha (by simp [hel]) hokc (by rw [hps]; omega) (by omega) fun w' l' h5 hl' hok' _g => ?_
      simp only [rdI_mk]
      intro _g
      refine hK w' ?_
      rw [set_row] at h5
      have h6 := back l' (inc d.next) d.off L w' hok' rfl h5
      refine refP_open.2 ⟨_, ?_, ?_, h6⟩
      · rfl
      rw [ref_abs ho q1 q2 q10 q9 q8]
      unfold NT.okCode NT.enter
      rw [if_pos c0, upd_abs q3, hdown]
      have e3 : (l.count f).abs = l.abs.count f := by unfold RL.count LN.count RL.abs; cases f <;> rfl
      rw [e3] at hl'
      simp [RD.abs, hl']
    have done : ∀ w', Hs W (refP d.b (d.abs.okCode e p now f bs) :: L) w' → (.tuple #[.int .i64 d.next, .int .i64 0] : Value) = .tuple #[.int .i64 (d.abs.pid (d.abs.code e p now bs.length)), .int .i64 (d.abs.code e p now bs.length)] ∧ Hs W (refP d.b (d.abs.okCode e p now f bs) :: L) w' := fun w' h' => by
      refine ⟨?_, h'⟩
      unfold NT.pid
      rw [c0, if_pos rfl]; rfl
    cases f with
    | true =>
      simp only [br_true]
      refine ldI_c (cells_in h3 ha q2 rfl) (lane_put h3 ha q2 (l' := l.count true) (by decide) rfl fun w4 h4 => ?_)
      have := fin w4 h4 (K := fun v w' => v = .tuple #[.int .i64 (d.abs.pid (d.abs.code e p now bs.length)), .int .i64 (d.abs.code e p now bs.length)] ∧ Hs W (refP d.b (d.abs.okCode e p now true bs) :: L) w') done
      exact this
    | false =>
      simp only [br_false]
      refine ldI_c (cells_in h3 ha q2 rfl) (lane_put h3 ha q2 (l' := l.count false) (by decide) rfl fun w4 h4 => ?_)
      have := fin w4 h4 (K := fun v w' => v = .tuple #[.int .i64 (d.abs.pid (d.abs.code e p now bs.length)), .int .i64 (d.abs.code e p now bs.length)] ∧ Hs W (refP d.b (d.abs.okCode e p now false bs) :: L) w') done
      exact this
  · rw [decide_eq_false hh, Bool.not_false, br_true]
    exact stay 90 (by decide) (by unfold NT.code; rw [if_neg hh])
theorem r25 (h : Hs W (refP b n :: L) w) (e p now : Int) (hs : Src W L a c bs) :
    Calls Try.prog 25 #[.pointer (some ⟨b, 0, none⟩), .int .i64 e, .int .i64 p, .slice a bs.length c, .int .i64 now] w (rt fun v w' => v = .tuple #[.int .i64 (n.pid (n.code e p now bs.length)), .int .i64 (n.code e p now bs.length)] ∧ Hs W (refP b (n.okCode e p now false bs) :: L) w') := by
  refine F25_ok ?_
  unfold F25
  simp only [rdP_mk, rdI_mk, rdC_mk]
  refine cl (r46 h e p now false hs) ?_
  rintro _ w' ⟨rfl, h'⟩
  exact ⟨_, _, rfl, rfl, h'⟩
theorem r26 (h : Hs W (refP b n :: L) w) (e p now : Int) (hs : Src W L a c bs) :
    Calls Try.prog 26 #[.pointer (some ⟨b, 0, none⟩), .int .i64 e, .int .i64 p, .slice a bs.length c, .int .i64 now] w (rt fun v w' => v = .tuple #[.int .i64 (n.pid (n.code e p now bs.length)), .int .i64 (n.code e p now bs.length)] ∧ Hs W (refP b (n.okCode e p now true bs) :: L) w') := by
  refine F26_ok ?_
  unfold F26
  simp only [rdP_mk, rdI_mk, rdC_mk]
  refine cl (r46 h e p now true hs) ?_
  rintro _ w' ⟨rfl, h'⟩
  exact ⟨_, _, rfl, rfl, h'⟩
end
end Go.Proofs.Ytnmgdeimngcbgaa
