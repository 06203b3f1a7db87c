/-
  TimersOnce: what is set is told once.
-/
import Derived.Test.YtdagfdejjfobhaaTmN
namespace Go.Proofs.Ytdagfdejjfobhaa
open Go Go.Sh Go.Tm
noncomputable def E23i : TypeInfo := (Try.prog.info? 3).getD default
theorem E23 : ElemT Try.prog 23 3 1 8 (.int .i64 0) E23i := ⟨by kernel_rfl, by kernel_rfl, by kernel_rfl, by kernel_rfl, by kernel_rfl, rfl, by decide⟩
/-- a row of numbers -/
def iF (n : Nat) (g : Nat → Int) : List Value := (List.range n).map fun k => .int .i64 (g k)
theorem iF_length (n : Nat) (g : Nat → Int) : (iF n g).length = n := by simp [iF]
theorem iF_at {n k : Nat} {g : Nat → Int} (h : k < n) : (iF n g)[k]? = some (.int .i64 (g k)) := by simp [iF, h]
theorem iF_congr {n : Nat} {g g' : Nat → Int} (h : ∀ k < n, g k = g' k) : iF n g = iF n g' := by
  unfold iF
  refine List.map_congr_left fun p hp => ?_
  rw [h p (by simpa using hp)]
theorem iF_set {n k : Nat} {g : Nat → Int} {x : Int} (h : k < n) : (iF n g).set k (.int .i64 x) = iF n fun j => if j = k then x else g j := by
  apply List.ext_getElem?
  intro j
  rw [List.getElem?_set]
  by_cases hj : j < n
  · rw [iF_at hj]
    by_cases hk : k = j
    · subst hk; simp [iF, h]
    · rw [if_neg hk, iF_at hj, if_neg (fun e => hk e.symm)]
  · rw [List.getElem?_eq_none (by rw [iF_length]; omega), List.getElem?_eq_none (by rw [iF_length]; omega)]
    split
    · rw [if_neg (by rw [iF_length]; omega)]
    · rfl
/-- what is noted of each timer -/
def gOf (l : List Du) (k : Nat) : Int := (mval l (k : Int)).getD (-1)
theorem gOf_ins {l : List Du} (li : LI l) {d : Du} (hd : isI d.1 ∧ isT d.2) : gOf (ins d (del d.1 l)) = fun k => if k = d.1.toNat then d.2 else gOf l k := by
  funext k
  unfold gOf
  rw [mval_ins li hd]
  have := hd.1
  unfold isI at this
  by_cases hk : k = d.1.toNat
  · rw [if_pos hk, if_pos (by omega)]; rfl
  · rw [if_neg hk, if_neg (by omega)]
theorem gOf_del {l : List Du} (li : LI l) {id : Int} (hi : isI id) : gOf (del id l) = fun k => if k = id.toNat then -1 else gOf l k := by
  funext k
  unfold gOf
  rw [mval_del li.ids]
  unfold isI at hi
  by_cases hk : k = id.toNat
  · rw [if_pos hk, if_pos (by omega)]; rfl
  · rw [if_neg hk, if_neg (by omega)]
theorem gOf_cons {d : Du} {l : List Du} (li : LI (d :: l)) : gOf (d :: l) d.1.toNat = d.2 ∧ gOf l = fun k => if k = d.1.toNat then -1 else gOf (d :: l) k := by
  have hd := (li.rng d (by simp)).1
  have hi := li.ids
  simp only [List.map_cons, List.nodup_cons] at hi
  unfold isI at hd
  have hn : mval l d.1 = none := mval_none fun x hx e => hi.1 (List.mem_map.2 ⟨x, hx, e⟩)
  refine ⟨?_, ?_⟩
  · unfold gOf
    simp only [mval]
    rw [if_pos (by omega)]; rfl
  · funext k
    unfold gOf
    simp only [mval]
    by_cases hk : k = d.1.toNat
    · rw [if_pos hk, show ((k : Nat) : Int) = d.1 by omega, hn]; rfl
    · rw [if_neg hk, if_neg (by omega)]
/-- how many are noted -/
def cnt (l : List Du) (j : Nat) : Nat := ((List.range j).filter fun k => decide (gOf l k ≥ 0)).length
theorem cnt_succ (l : List Du) (j : Nat) : cnt l (j + 1) = cnt l j + if gOf l j ≥ 0 then 1 else 0 := by
  unfold cnt
  rw [List.range_succ, List.filter_append]
  by_cases h : gOf l j ≥ 0 <;> simp [h]
theorem gOf_some {l : List Du} (li : LI l) (k : Nat) : gOf l k ≥ 0 ↔ (mval l (k : Int)).isSome = true := by
  unfold gOf
  cases h : mval l (k : Int) with
  | none => simp
  | some t =>
    have := (li.rng _ ((mval_iff li.ids).1 h)).2
    unfold isT at this
    simp
    omega
theorem cnt_all {l : List Du} (li : LI l) : cnt l 4096 = l.length := by
  have := nodup_same_len (a := ((List.range 4096).filter fun k => decide (gOf l k ≥ 0)).map Int.ofNat) (b := l.map Prod.fst) ?_ li.ids ?_
  · simp only [List.length_map] at this
    exact this
  · have h0 : ((List.range 4096).filter fun k => decide (gOf l k ≥ 0)).Nodup := (List.nodup_range (n := 4096)).filter _
    exact List.pairwise_map.2 (h0.imp fun {a b} h e => h (Int.ofNat.inj e))
  · intro x
    rw [mval_mem_fst]
    constructor
    · intro h
      obtain ⟨k, hk, rfl⟩ := List.mem_map.1 h
      have := (List.mem_filter.1 hk).2
      simp only [decide_eq_true_eq] at this
      exact (gOf_some li k).1 this
    · intro h
      obtain ⟨t, ht⟩ := Option.isSome_iff_exists.1 h
      have hr := (li.rng _ ((mval_iff li.ids).1 ht)).1
      unfold isI at hr
      have hx : x = ((x.toNat : Nat) : Int) := by omega
      refine List.mem_map.2 ⟨x.toNat, List.mem_filter.2 ⟨by simp; omega, ?_⟩, hx.symm⟩
      simp only [decide_eq_true_eq]
      refine (gOf_some li _).2 ?_
      rw [← hx]; exact h
theorem dueN_max {l : List Du} (li : LI l) : dueN 1099511627776 l = l.length := by
  unfold dueN
  have key : ∀ l : List Du, (∀ x ∈ l, x.2 ≤ 1099511627776) → l.takeWhile (fun x => decide (x.2 ≤ 1099511627776)) = l := by
    intro l
    induction l with
    | nil => intro _; rfl
    | cons x l ih =>
      intro h
      rw [List.takeWhile_cons, if_pos (by simpa using h x (by simp)), ih fun y hy => h y (by simp [hy])]
  have := key l fun x hx => by
    have := (li.rng x hx).2
    unfold isT at this
    exact this.2
  rw [this]
section
variable {W w : World} {L M P : List HP} {tb j : Nat} {last : Int} {l l' : List Du} {d : Du} {o : R38} {os : List R38} {sa : Option Addr} {sc : Nat} {ra : Addr} {rc : Nat} {g : Nat → Int}
/-- the notes -/
abbrev nP (ra : Addr) (rc : Nat) (g : Nat → Int) : HP := slP 3 1 (some ra) 4096 rc (iF 4096 g)
theorem TB.note {K : World → Prop} {k : Nat} {x : Int} (t : TB W [] (nP ra rc g :: L) tb last l w) (hk : k < 4096) (hK : ∀ w', TB W [] (nP ra rc (fun j => if j = k then x else g j) :: L) tb last l w' → K w') : stc (ra.add k) (.int .i64 x) w K := by
  obtain ⟨la, lc, m, n, h, f, t, hs⟩ := t
  have hs : Hs W (tabL tb la lc m n h last f ++ (nP ra rc g :: L)) w := hs
  refine hs.put 3 rfl (by rw [iF_length]; omega) fun w' h' => hK w' ⟨la, lc, m, n, h, f, t, ?_⟩
  have h' : Hs W (tabL tb la lc m n h last f ++ (slP 3 1 (some ra) 4096 rc ((iF 4096 g).set k (.int .i64 x)) :: L)) w' := h'
  rw [iF_set hk] at h'
  exact h'
theorem TB.noted (t : TB W [] (nP ra rc g :: L) tb last l w) {k : Nat} (hk : k < 4096) : w.cell? (ra.add k) = some (.int .i64 (g k)) := by
  obtain ⟨la, lc, m, n, h, f, t, hs⟩ := t
  have hs : Hs W (tabL tb la lc m n h last f ++ (nP ra rc g :: L)) w := hs
  exact (hs.rd 3 rfl).at (iF_at hk)
theorem TB.li (t : TB W P L tb last l w) : LI l := by
  obtain ⟨_, _, _, _, _, _, t, _⟩ := t
  exact t.li
/-- those that were due are noted no more -/
theorem c4_2 {qa : Option Addr} {qc : Nat} {q rest : List Du} {K5 : Value → Value → Value → Value → World → Prop} {Kr : Value → World → Prop} {jo : Nat} (hr : Rd W sa (os.flatMap R38.l)) (ho : os[jo]? = some o) (hli : LI (q ++ rest)) (hq : ∀ d ∈ q, d.2 ≤ o.f2)
    (hK : ∀ w', TB W [] (nP ra rc (gOf rest) :: slP 30 2 qa q.length qc (duV q) :: L) tb last rest w' → K5 (.slice sa os.length sc) (.pointer (some ⟨tb, 0, none⟩)) (.slice (some ra) 4096 rc) (.int .i64 (jo : Int)) w') :
    ∀ (i j : Nat) (w : World) (k : Nat), j + i = q.length → TB W [] (nP ra rc (gOf ((q ++ rest).drop j)) :: slP 30 2 qa q.length qc (duV q) :: L) tb last rest w → i < k →
      F4_2 K5 Kr k (.slice sa os.length sc) (.pointer (some ⟨tb, 0, none⟩)) (.slice (some ra) 4096 rc) (.int .i64 (jo : Int)) (.slice qa q.length qc) (.int .i64 (j : Int)) w := by
  have hql : q.length ≤ 4096 := by
    have := hli.few
    simp at this
    omega
  intro i
  induction i with
  | zero =>
    intro j w k hj t hk
    obtain ⟨k, rfl⟩ : ∃ j, k = j + 1 := ⟨k - 1, by omega⟩
    show F4_2B _ _ _ _ _ _ _ _ _ _
    unfold F4_2B
    simp only [rdP_mk, rdI_mk, rdC_mk]
    rw [br_dec]
    refine ⟨fun h => by exfalso; omega, fun _ => hK w ?_⟩
    have : (q ++ rest).drop j = rest := by rw [show j = q.length by omega]; simp
    rw [this] at t
    exact t
  | succ i ih =>
    intro j w k hj t hk
    obtain ⟨k, rfl⟩ : ∃ j, k = j + 1 := ⟨k - 1, by omega⟩
    show F4_2B _ _ _ _ _ _ _ _ _ _
    unfold F4_2B
    simp only [rdP_mk, rdI_mk, rdC_mk]
    rw [br_dec]
    refine ⟨fun _ => ?_, fun h => by exfalso; omega⟩
    obtain ⟨d, hd⟩ : ∃ d, q[j]? = some d := ⟨q[j]'(by omega), by simp⟩
    have hdq : (q ++ rest)[j]? = some d := by rw [List.getElem?_append_left (by omega)]; exact hd
    have hlt : j < (q ++ rest).length := (List.getElem?_eq_some_iff.1 hdq).1
    have hdr : (q ++ rest).drop j = d :: (q ++ rest).drop (j + 1) := by rw [List.drop_eq_getElem_cons hlt, (List.getElem?_eq_some_iff.1 hdq).2]
    have hlid : LI (d :: (q ++ rest).drop (j + 1)) := by
      rw [← hdr]
      exact ⟨hli.srt.sublist (List.drop_sublist _ _), hli.ids.sublist ((List.drop_sublist _ _).map _), fun x hx => hli.rng x (List.mem_of_mem_drop hx)⟩
    obtain ⟨g1, g2⟩ := gOf_cons hlid
    rw [← hdr] at g1 g2
    have hid := (hlid.rng d (by simp)).1
    have hid' := hid
    unfold isI at hid'
    obtain ⟨la, lc, m, n, h, f, ti, hs⟩ := t
    have hs : Hs W (tabL tb la lc m n h last f ++ (nP ra rc (gOf ((q ++ rest).drop j)) :: slP 30 2 qa q.length qc (duV q) :: L)) w := hs
    obtain ⟨ad, had, p1, p2⟩ := du_rd (hs.rd 4 rfl) hd
    rw [had]
    refine ixS_to (p := j) rfl (by omega) ?_
    simp only [add_add]
    refine ldI_c p1 (ldI_c p2 ?_)
    refine hs.alc fun b10 w1 h1 => ?_
    simp only [add_mk]
    refine h1.stc 0 rfl (by simp) fun w2 h2 => h2.stc 0 rfl (by simp) fun w3 h3 => h3.drw fun w4 h4 => ?_
    have h4 : Hs W (dP b10 d :: (tabL tb la lc m n h last f ++ (nP ra rc (gOf ((q ++ rest).drop j)) :: slP 30 2 qa q.length qc (duV q) :: L))) w4 := h4
    refine h4.ldI 0 rfl rfl ?_
    refine clr (c14 d.1 w4) ⟨_, rfl, ?_⟩
    rw [show decide (isI d.1) = true by simpa using hid, Bool.not_true, br_false]
    refine h4.ldI 0 rfl rfl ?_
    show ixS 1 (some ra) 4096 d.1 _
    refine ixS_to (p := d.1.toNat) (by omega) (by omega) ?_
    rw [Nat.mul_one]
    refine ldI_c ((h4.rd 4 rfl).at (iF_at (k := d.1.toNat) (by omega))) ?_
    refine h4.ldI 0 rfl rfl ?_
    rw [g1, bne_self_eq_false, br_false]
    refine h4.ldI 0 rfl rfl ?_
    have m1 : Rd w4 sa (os.flatMap R38.l) := h4.rd_old hr
    have hol := (List.getElem?_eq_some_iff.1 ho).1
    obtain ⟨sd, hsd⟩ := m1.some (by rw [flat_length (m := 3) R38_len]; omega)
    have m2 := m1
    rw [hsd] at m2 ⊢
    refine ixS_to (p := jo) rfl hol ?_
    have m3 := m2.atI R38_len ho
    obtain ⟨ax, hax⟩ : ∃ ax, ax = sd.add (jo * 3) := ⟨_, rfl⟩
    rw [← hax] at m3 ⊢
    refine ldI_c (m3 2 (.int .i64 o.f2) rfl) ?_
    have hle := hq d (List.mem_of_getElem? hd)
    show br (decide (d.2 > o.f2)) _ _
    rw [br_dec]
    refine ⟨fun h => by exfalso; omega, fun _ => ?_⟩
    unfold F4_1
    simp only [rdP_mk, rdI_mk, rdC_mk, rdA_mk, add_mk]
    refine h4.ldI 0 rfl rfl ?_
    show ixS 1 (some ra) 4096 d.1 _
    refine ixS_to (p := d.1.toNat) (by omega) (by omega) ?_
    rw [Nat.mul_one]
    refine h4.put 4 rfl (by rw [iF_length]; omega) fun w5 h5 => ?_
    have h5 : Hs W (dP b10 d :: (tabL tb la lc m n h last f ++ (slP 3 1 (some ra) 4096 rc ((iF 4096 (gOf ((q ++ rest).drop j))).set d.1.toNat (.int .i64 (-1))) :: slP 30 2 qa q.length qc (duV q) :: L))) w5 := h5
    rw [iF_set (by omega), ← g2] at h5
    intro _g
    have e1 : IntKind.wrap .i64 ((j : Int) + 1) = ((j + 1 : Nat) : Int) := by rw [wrap_i64 (by omega) (by omega)]; omega
    simp only [e1]
    rw [← hsd, ← had]
    exact ih (j + 1) w5 k (by omega) ⟨la, lc, m, n, h, f, ti, h5.drop⟩ (by omega)
/-- the script -/
theorem c4_5 {K2 : Value → Value → World → Prop} {Kr : Value → World → Prop} (hr : Rd W sa (os.flatMap R38.l)) (hol : os.length ≤ 9223372036854775807)
    (hK : ∀ w' last l L, last ≤ 1099511627776 → TB W [] (nP ra rc (gOf l) :: L) tb last l w' → K2 (.pointer (some ⟨tb, 0, none⟩)) (.slice (some ra) 4096 rc) w') :
    ∀ (i j : Nat) (w : World) (k : Nat) (last : Int) (l : List Du), j + i = os.length → last ≤ 1099511627776 → TB W [] (nP ra rc (gOf l) :: []) tb last l w → i < k →
      F4_5 K2 Kr k (.slice sa os.length sc) (.pointer (some ⟨tb, 0, none⟩)) (.slice (some ra) 4096 rc) (.int .i64 (j : Int)) w := by
  intro i
  induction i with
  | zero =>
    intro j w k last l hj hla t hk
    obtain ⟨k, rfl⟩ : ∃ j, k = j + 1 := ⟨k - 1, by omega⟩
    show F4_5B _ _ _ _ _ _ _ _
    unfold F4_5B
    simp only [rdP_mk, rdI_mk, rdC_mk]
    rw [br_dec]
    exact ⟨fun h => by exfalso; omega, fun _ => hK w last l [] hla t⟩
  | succ i ih =>
    intro j w k last l hj hla t hk
    obtain ⟨k, rfl⟩ : ∃ j, k = j + 1 := ⟨k - 1, by omega⟩
    show F4_5B _ _ _ _ _ _ _ _
    unfold F4_5B
    simp only [rdP_mk, rdI_mk, rdC_mk]
    rw [br_dec]
    refine ⟨fun _ => ?_, fun h => by exfalso; omega⟩
    obtain ⟨o, ho⟩ : ∃ o, os[j]? = some o := ⟨os[j]'(by omega), by simp⟩
    have e1 : IntKind.wrap .i64 ((j : Int) + 1) = ((j + 1 : Nat) : Int) := by rw [wrap_i64 (by omega) (by omega)]; omega
    rw [e1]
    have hjl : j < os.length := by omega
    -- a field of the act at hand
    have fld : ∀ {w' : World} {t' : TypeId} (c : Nat) (x : Int), Same W w' → o.l[c]? = some (.int .i64 x) → ∀ K : Int → Prop, K x → ixS 3 sa os.length (j : Int) fun a => ldI .i64 (a.add c) w' K := by
      intro w' _ c x s hx K hKx
      have m1 : Rd w' sa (os.flatMap R38.l) := hr.fr s fun _ _ x => x
      obtain ⟨sd, hsd⟩ := m1.some (by rw [flat_length (m := 3) R38_len]; omega)
      rw [hsd] at m1 ⊢
      exact ixS_to (p := j) rfl hjl (ldI_c ((m1.atI R38_len ho) c _ hx) hKx)
    refine fld (t' := 0) 0 o.f0 t.old rfl _ ?_
    rw [br_iff]
    refine ⟨fun hk1 => ?_, fun hk1 => ?_⟩
    · have t := t.same (Fr.refl w).drew
      unfold drw
      refine fld (t' := 0) 1 o.f1 t.old rfl _ ?_
      refine fld (t' := 0) 2 o.f2 t.old rfl _ ?_
      refine cl (c9 t (o.f1, o.f2)) ?_
      rintro _ w1 (⟨hn, rfl, t1⟩ | ⟨hi, hn, rfl, t1⟩ | ⟨hi, ht, rfl, t1⟩)
      · refine ⟨_, rfl, ?_⟩
        rw [show ((1 : Int) == 0) = false from rfl, br_false]
        exact ih (j + 1) w1 k last l (by omega) hla t1 (by omega)
      · refine ⟨_, rfl, ?_⟩
        rw [show ((80 : Int) == 0) = false from rfl, br_false]
        exact ih (j + 1) w1 k last l (by omega) hla t1 (by omega)
      · refine ⟨_, rfl, ?_⟩
        have hi : isI o.f1 := hi
        have hi' := hi
        unfold isI at hi'
        rw [show ((0 : Int) == 0) = true from rfl, br_true]
        refine fld (t' := 0) 1 o.f1 t1.old rfl _ ?_
        refine clr (c14 o.f1 w1) ⟨_, rfl, ?_⟩
        rw [show decide (isI o.f1) = true by simpa using hi, Bool.not_true, br_false]
        have t2 := t1.same (Fr.refl w1).drew
        refine fld (t' := 0) 1 o.f1 t2.old rfl _ ?_
        refine fld (t' := 0) 2 o.f2 t2.old rfl _ ?_
        refine ixS_to (p := o.f1.toNat) (by omega) (by omega) ?_
        rw [Nat.mul_one]
        refine TB.note t2 (k := o.f1.toNat) (by omega) fun w3 t3 => ?_
        have hg : gOf (ins (o.f1, o.f2) (del o.f1 l)) = fun k => if k = o.f1.toNat then o.f2 else gOf l k := gOf_ins (d := (o.f1, o.f2)) t.li ⟨hi, ht⟩
        have t3 : TB W [] (nP ra rc (gOf (ins (o.f1, o.f2) (del o.f1 l))) :: []) tb last (ins (o.f1, o.f2) (del o.f1 l)) w3 := by rw [hg]; exact t3
        exact ih (j + 1) w3 k last _ (by omega) hla t3 (by omega)
    rw [br_iff]
    refine ⟨fun hk2 => ?_, fun hk2 => ?_⟩
    · refine fld (t' := 0) 1 o.f1 t.old rfl _ ?_
      refine cl (c15 t o.f1) ?_
      rintro _ w1 (⟨hn, rfl, t1⟩ | ⟨hi, rfl, t1⟩)
      · refine ⟨_, _, rfl, ?_⟩
        rw [show ((1 : Int) == 0) = false from rfl, br_false]
        unfold F4_3
        simp only [rdP_mk, rdI_mk, rdC_mk, rdB_mk, e1]
        rw [br_false]
        exact fun _ => ih (j + 1) w1 k last l (by omega) hla t1 (by omega)
      · refine ⟨_, _, rfl, ?_⟩
        have hi' := hi
        unfold isI at hi'
        rw [show ((0 : Int) == 0) = true from rfl, br_true]
        refine fld (t' := 0) 1 o.f1 t1.old rfl _ ?_
        refine clr (c14 o.f1 w1) ⟨_, rfl, ?_⟩
        rw [show decide (isI o.f1) = true by simpa using hi]
        unfold F4_3
        simp only [rdP_mk, rdI_mk, rdC_mk, rdB_mk, e1]
        rw [br_true]
        refine fld (t' := 0) 1 o.f1 t1.old rfl _ ?_
        refine ixS_to (p := o.f1.toNat) (by omega) (by omega) ?_
        rw [Nat.mul_one]
        refine TB.note t1 (k := o.f1.toNat) (by omega) fun w3 t3 => ?_
        have t3 : TB W [] (nP ra rc (gOf (del o.f1 l)) :: []) tb last (del o.f1 l) w3 := by rw [gOf_del t.li hi]; exact t3
        exact fun _ => ih (j + 1) w3 k last _ (by omega) hla t3 (by omega)
    rw [br_iff]
    refine ⟨fun hk3 => ?_, fun hk3 => ?_⟩
    · refine fld (t' := 0) 2 o.f2 t.old rfl _ ?_
      refine cl (c10 t o.f2) ?_
      rintro _ w1 (⟨hn, rfl, t1⟩ | ⟨ht, hle, a, c, rfl, t1⟩)
      · refine ⟨_, _, _, _, rfl, 1, ?_⟩
        show F4_2B _ _ _ _ _ _ _ _ _ _
        unfold F4_2B
        simp only [rdP_mk, rdI_mk, rdC_mk]
        rw [br_dec]
        refine ⟨fun h => by exfalso; omega, fun _ _ => ?_⟩
        try simp only [e1]
        exact ih (j + 1) w1 k last l (by omega) hla t1 (by omega)
      · refine ⟨_, _, _, _, rfl, ?_⟩
        obtain ⟨q, hq⟩ : ∃ q, q = l.take (dueN o.f2 l) := ⟨_, rfl⟩
        obtain ⟨rest, hrest⟩ : ∃ rest, rest = l.drop (dueN o.f2 l) := ⟨_, rfl⟩
        have hl : q ++ rest = l := by rw [hq, hrest]; exact List.take_append_drop _ _
        have hqm : ∀ d ∈ q, d.2 ≤ o.f2 := fun d hd => by rw [hq] at hd; exact mem_due hd
        rw [← hq, ← hrest] at t1
        rw [← hq]
        have t2 : TB W [] (nP ra rc (gOf ((q ++ rest).drop 0)) :: slP 30 2 a q.length c (duV q) :: []) tb o.f2 rest w1 := by
          rw [List.drop_zero, hl]
          exact t1.perm (List.Perm.swap _ _ _)
        refine ⟨q.length + 1, c4_2 hr ho (by rw [hl]; exact t.li) hqm (fun w2 t3 => ?_) q.length 0 w1 _ (Nat.zero_add _) t2 (by omega)⟩
        intro _g
        try simp only [rdP_mk, rdI_mk, rdC_mk, e1]
        have t4 : TB W [] (nP ra rc (gOf rest) :: []) tb o.f2 rest w2 := by
          obtain ⟨la, lc, m, n, h, f, ti, hs⟩ := t3
          have hs : Hs W (tabL tb la lc m n h o.f2 f ++ (nP ra rc (gOf rest) :: slP 30 2 a q.length c (duV q) :: [])) w2 := hs
          exact ⟨la, lc, m, n, h, f, ti, hs.erase 4⟩
        exact ih (j + 1) w2 k o.f2 rest (by omega) ht.2 t4 (by omega)
    · exact ih (j + 1) w k last l (by omega) hla t (by omega)
end
end Go.Proofs.Ytdagfdejjfobhaa
