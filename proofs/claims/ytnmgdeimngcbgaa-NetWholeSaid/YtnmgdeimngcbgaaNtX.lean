/- Own text: part of the shallow reading of the code and of the contracts that are proved over it. -/
import Derived.Test.YtnmgdeimngcbgaaNtV
import Derived.Test.YtnmgdeimngcbgaaShU
namespace Go.Proofs.Ytnmgdeimngcbgaa
open Go Go.Sh
/-! the reference's network -/
noncomputable def E87i : TypeInfo := (Try.prog.info? 98).getD default
theorem E87 : ElemT Try.prog 87 98 5 56 (.agg #[.slice none 0 0, .int .i64 0, .int .i64 0, .int .i64 0, .int .i64 0]) E87i := ⟨by kernel_rfl, by kernel_rfl, by kernel_rfl, by kernel_rfl, by kernel_rfl, rfl, by decide⟩
noncomputable def E35i : TypeInfo := (Try.prog.info? 87).getD default
theorem E35 : ElemT Try.prog 35 87 1 24 (.slice none 0 0) E35i := ⟨by kernel_rfl, by kernel_rfl, by kernel_rfl, by kernel_rfl, by kernel_rfl, rfl, by decide⟩
noncomputable def E96i : TypeInfo := (Try.prog.info? 102).getD default
theorem E96 : ElemT Try.prog 96 102 5 56 (.agg #[.int .i64 0, .int .i64 0, .int .i64 0, .bool false, .slice none 0 0]) E96i := ⟨by kernel_rfl, by kernel_rfl, by kernel_rfl, by kernel_rfl, by kernel_rfl, rfl, by decide⟩
theorem run_b96 (w : World) : Sem.run Try.prog (Instr.buildSlice 96 0 #[]) w = .ok (.slice (some ⟨w.heap.size, 0, none⟩) 0 0) (w.alloc (.cells #[] 102)) := by kernel_rfl
structure RL where
  a : Option Addr
  c : Nat
  sent : Int
  del : Int
  lost : Int
  forged : Int
  ps : List Pk
structure RP where
  a : Option Addr
  c : Nat
  ls : List RL
structure RD where
  b : Nat
  ra : Option Addr
  rc : Nat
  oa : Option Addr
  oc : Nat
  next : Int
  rows : List RP
  off : List Bool
def RL.abs (l : RL) : LN := ⟨l.sent, l.del, l.lost, l.forged, l.ps.map Pk.abs⟩
def rpA (r : RP) : List LN := r.ls.map RL.abs
def RD.abs (n : RD) : NT := ⟨n.rows.flatMap rpA, n.off, n.next⟩
def rlC (l : RL) : List Value := [.slice l.a l.ps.length l.c, .int .i64 l.sent, .int .i64 l.del, .int .i64 l.lost, .int .i64 l.forged]
theorem rlC_len (l : RL) : (rlC l).length = 5 := rfl
def rlRow (l : RL) : HP := slP 102 5 l.a l.ps.length l.c (pksV l.ps)
def rlN (l : RL) : HP := bigS (rlRow l :: l.ps.map pkN)
def rpRow (r : RP) : HP := slP 98 5 r.a 2 r.c (r.ls.flatMap rlC)
def rpN (r : RP) : HP := bigS (rpRow r :: r.ls.map rlN)
def rpV (r : RP) : Value := .slice r.a 2 r.c
def rcell (n : RD) : HP := pt n.b (.cells #[.slice n.ra n.rows.length n.rc, .slice n.oa n.rows.length n.oc, .int .i64 n.next] 38 (0, 0))
def rrow (n : RD) : HP := slP 87 1 n.ra n.rows.length n.rc (n.rows.map rpV)
def roff (n : RD) : HP := slP 4 1 n.oa n.rows.length n.oc (n.off.map Value.bool)
def rlok (l : RL) : Prop := l.ps.length ≤ 4096 ∧ ∀ p ∈ l.ps, p.bytes.length ≤ 65536
def rdok (n : RD) : Prop := n.off.length = n.rows.length ∧ n.rows.length ≤ 8 ∧ ∀ r ∈ n.rows, r.ls.length = 2 ∧ ∀ l ∈ r.ls, rlok l
def rdN (n : RD) : HP := pr (rdok n) (bigS (rcell n :: rrow n :: roff n :: n.rows.map rpN))
def refP (b : Nat) (n : NT) : HP := ex fun d : RD => pr (d.b = b ∧ d.abs = n) (rdN d)
theorem set_flat {n : RD} {p e : Nat} {r : RP} {l l' : RL} (h2 : ∀ r ∈ n.rows, r.ls.length = 2) (hp : n.rows[p]? = some r) (he : r.ls[e]? = some l) (he2 : e < 2) : (n.rows.set p { r with ls := r.ls.set e l' }).flatMap rpA = (n.rows.flatMap rpA).set (p * 2 + e) l'.abs := by
  have key : ∀ (rows : List RP) (p : Nat), (∀ r ∈ rows, r.ls.length = 2) → rows[p]? = some r → (rows.set p { r with ls := r.ls.set e l' }).flatMap rpA = (rows.flatMap rpA).set (p * 2 + e) l'.abs := by
    intro rows
    induction rows with
    | nil => intro p _ hp; simp at hp
    | cons q rows ih =>
      intro p h2 hp
      have hq : (rpA q).length = 2 := by simp [rpA, h2 q (by simp)]
      cases p with
      | zero =>
        simp at hp; subst hp
        rw [List.set_cons_zero, List.flatMap_cons, List.flatMap_cons, Nat.zero_mul, Nat.zero_add, List.set_append_left _ _ (by omega)]
        simp [rpA, List.map_set]
      | succ p =>
        rw [List.set_cons_succ, List.flatMap_cons, List.flatMap_cons, List.set_append_right _ _ (by omega), ih p (fun r hr => h2 r (List.mem_cons_of_mem _ hr)) (by simpa using hp), hq]
        congr 2
        omega
  exact key n.rows p h2 hp
theorem get_flat {n : RD} {p e : Nat} {r : RP} {l : RL} (h2 : ∀ r ∈ n.rows, r.ls.length = 2) (hp : n.rows[p]? = some r) (he : r.ls[e]? = some l) (he2 : e < 2) : n.abs.lanes[p * 2 + e]? = some l.abs := by
  have key : ∀ (rows : List RP) (p : Nat), (∀ r ∈ rows, r.ls.length = 2) → rows[p]? = some r → (rows.flatMap rpA)[p * 2 + e]? = some l.abs := by
    intro rows
    induction rows with
    | nil => intro p _ hp; simp at hp
    | cons q rows ih =>
      intro p h2 hp
      have hq : (rpA q).length = 2 := by simp [rpA, h2 q (by simp)]
      rw [List.flatMap_cons]
      cases p with
      | zero =>
        simp at hp; subst hp
        rw [Nat.zero_mul, Nat.zero_add, List.getElem?_append_left (by omega)]
        simp [rpA, he]
      | succ p =>
        rw [List.getElem?_append_right (by omega), hq, ← ih p (fun r hr => h2 r (List.mem_cons_of_mem _ hr)) (by simpa using hp)]
        congr 1
        omega
  exact key n.rows p h2 hp
section
variable {W w : World} {b : Nat} {n : NT} {d : RD} {L : List HP} {r : RP} {l : RL} {p e : Nat}
theorem refP_open : Hs W (refP b n :: L) w ↔ ∃ d : RD, d.b = b ∧ d.abs = n ∧ Hs W (rdN d :: L) w := by
  unfold refP
  rw [Hs.cons_ex]
  simp only [Hs.cons_pr, and_assoc]
theorem rd_open : Hs W (rdN d :: L) w ↔ rdok d ∧ Hs W (rcell d :: rrow d :: roff d :: (L ++ d.rows.map rpN)) w := by
  unfold rdN
  rw [Hs.cons_pr, Hs.cons_bigS]
  refine and_congr Iff.rfl ⟨fun h => h.perm ?_, fun h => h.perm ?_⟩
  · exact ((List.perm_append_comm.cons _).cons _).cons _
  · exact ((List.perm_append_comm.cons _).cons _).cons _
theorem rp_open : Hs W (rpN r :: L) w ↔ Hs W (rpRow r :: (L ++ r.ls.map rlN)) w := by
  unfold rpN
  rw [Hs.cons_bigS]
  exact ⟨fun h => h.perm (List.perm_append_comm.cons _), fun h => h.perm (List.perm_append_comm.cons _)⟩
theorem rl_open : Hs W (rlN l :: L) w ↔ Hs W (rlRow l :: (L ++ l.ps.map pkN)) w := by
  unfold rlN
  rw [Hs.cons_bigS]
  exact ⟨fun h => h.perm (List.perm_append_comm.cons _), fun h => h.perm (List.perm_append_comm.cons _)⟩
/-- one lane of the reference's, in sight -/
theorem ref_focus (h : Hs W (rdN d :: L) w) (hp : d.rows[p]? = some r) (he : r.ls[e]? = some l) : rdok d ∧ ∃ X, Hs W (rcell d :: rrow d :: roff d :: rpRow r :: rlRow l :: ((L ++ X) ++ l.ps.map pkN)) w ∧
    ∀ l' nx of L' w', rlok l' → of.length = d.off.length → Hs W (rcell { d with next := nx } :: rrow d :: slP 4 1 d.oa d.rows.length d.oc (of.map Value.bool) :: rpRow { r with ls := r.ls.set e l' } :: rlRow l' :: ((L' ++ X) ++ l'.ps.map pkN)) w' →
      Hs W (rdN { d with next := nx, off := of, rows := d.rows.set p { r with ls := r.ls.set e l' } } :: L') w' := by
  obtain ⟨ho, h1⟩ := rd_open.1 h
  have hpl := (List.getElem?_eq_some_iff.1 hp).1
  have hel := (List.getElem?_eq_some_iff.1 he).1
  have h2 := Hs.part (M := rcell d :: rrow d :: roff d :: L) hp h1
  have h3 := rp_open.1 h2
  have h4 := Hs.part (M := rpRow r :: ((rcell d :: rrow d :: roff d :: L) ++ (d.rows.map rpN).eraseIdx p)) he h3
  have h5 := rl_open.1 h4
  refine ⟨ho, (d.rows.map rpN).eraseIdx p ++ (r.ls.map rlN).eraseIdx e, h5.perm ?_, fun l' nx of L' w' hl' hof h' => ?_⟩
  · have q : ∀ (a b c x y : HP) (u v : List HP), (a :: b :: c :: x :: y :: (u ++ v)).Perm (a :: b :: c :: x :: y :: (u ++ v)) := fun _ _ _ _ _ _ _ => List.Perm.refl _
    simp only [List.cons_append, List.append_assoc]
    -- l row, p row, three cells, the rest
    have s1 : ∀ (x y a b c : HP) (R : List HP), (x :: y :: a :: b :: c :: R).Perm (a :: b :: c :: y :: x :: R) := by
      intro x y a b c R
      have := (List.perm_append_comm (l₁ := [x, y]) (l₂ := [a, b, c])).append_right R
      refine this.trans ?_
      exact (((List.Perm.swap _ _ _).cons _).cons _).cons _
    exact s1 _ _ _ _ _ _
  · rw [rd_open]
    refine ⟨⟨by simpa [hof] using ho.1, by simpa using ho.2.1, fun q hq => ?_⟩, ?_⟩
    · rcases List.mem_or_eq_of_mem_set hq with hq | rfl
      · exact ho.2.2 q hq
      · have hr := ho.2.2 r (List.mem_of_getElem? hp)
        refine ⟨by simpa using hr.1, fun x hx => ?_⟩
        rcases List.mem_or_eq_of_mem_set hx with hx | rfl
        · exact hr.2 x hx
        · exact hl'
    · have e1 : rcell { d with next := nx, off := of, rows := d.rows.set p { r with ls := r.ls.set e l' } } = rcell { d with next := nx } := by unfold rcell; simp
      have e2 : rrow { d with next := nx, off := of, rows := d.rows.set p { r with ls := r.ls.set e l' } } = rrow d := by
        unfold rrow
        have : (d.rows.set p { r with ls := r.ls.set e l' }).map rpV = d.rows.map rpV := by
          rw [List.map_set]
          exact set_id (by rw [List.getElem?_map, hp]; rfl)
        simp only [this, List.length_set]
      have e3 : roff { d with next := nx, off := of, rows := d.rows.set p { r with ls := r.ls.set e l' } } = slP 4 1 d.oa d.rows.length d.oc (of.map Value.bool) := by unfold roff; simp
      rw [e1, e2, e3]
      refine Hs.unpart (M := rcell { d with next := nx } :: rrow d :: slP 4 1 d.oa d.rows.length d.oc (of.map Value.bool) :: L') hpl ?_
      refine rp_open.2 ?_
      refine Hs.unpart (M := rpRow { r with ls := r.ls.set e l' } :: ((rcell { d with next := nx } :: rrow d :: slP 4 1 d.oa d.rows.length d.oc (of.map Value.bool) :: L') ++ (d.rows.map rpN).eraseIdx p)) hel ?_
      refine rl_open.2 (h'.perm ?_)
      simp only [List.cons_append, List.append_assoc]
      have s1 : ∀ (x y a b c : HP) (R : List HP), (a :: b :: c :: y :: x :: R).Perm (x :: y :: a :: b :: c :: R) := by
        intro x y a b c R
        have := (List.perm_append_comm (l₁ := [a, b, c]) (l₂ := [y, x])).append_right R
        refine this.trans ?_
        exact List.Perm.swap _ _ _
      exact s1 _ _ _ _ _ _
/-! Has, at -/
theorem r49' (h : Hs W (rdN d :: L) w) (e p : Int) : Calls Try.prog 49 #[.pointer (some ⟨d.b, 0, none⟩), .int .i64 e, .int .i64 p] w (rt (KR (.bool (decide (d.abs.has e p))) w)) := by
  obtain ⟨ho, h1⟩ := rd_open.1 h
  refine F49_ok ?_
  unfold F49
  simp only [rdP_mk, rdI_mk, nn_some, add_mk]
  have hd : d.abs.down.length = d.rows.length := ho.1
  by_cases e0 : e = 0
  · subst e0
    simp only [beq_self_eq_true, br_true, br_dec]
    refine ⟨fun hp => h1.ldC 0 rfl rfl ?_, fun hp => ?_⟩
    · have : decide (d.abs.has 0 p) = decide (p < (d.rows.length : Int)) := by
        apply decide_eq_decide.2
        unfold NT.has; rw [hd]
        omega
      rw [this]
      exact KR.mk _ _
    · rw [decide_eq_false (by unfold NT.has; omega)]
      exact KR.mk _ _
  · have b0 : (e == 0) = false := by simpa using e0
    rw [b0, br_false]
    by_cases e1 : e = 1
    · subst e1
      simp only [beq_self_eq_true, br_true, br_dec]
      refine ⟨fun hp => h1.ldC 0 rfl rfl ?_, fun hp => ?_⟩
      · have : decide (d.abs.has 1 p) = decide (p < (d.rows.length : Int)) := by
          apply decide_eq_decide.2
          unfold NT.has; rw [hd]
          omega
        rw [this]
        exact KR.mk _ _
      · rw [decide_eq_false (by unfold NT.has; omega)]
        exact KR.mk _ _
    · have b1 : (e == 1) = false := by simpa using e1
      rw [b1, br_false, decide_eq_false (by unfold NT.has; omega)]
      exact KR.mk _ _
/-- where a lane lies -/
theorem lane_in (ho : rdok d) {e p : Int} (h : d.abs.has e p) : ∃ r l, d.rows[p.toNat]? = some r ∧ r.ls[e.toNat]? = some l ∧ d.abs.lanes[idx e p]? = some l.abs ∧ rlok l ∧ r.ls.length = 2 ∧ 0 ≤ p ∧ p < (d.rows.length : Int) ∧ 0 ≤ e ∧ e < 2 ∧ idx e p = p.toNat * 2 + e.toNat := by
  obtain ⟨a, b, c, f⟩ := h
  have hd : d.abs.down.length = d.rows.length := ho.1
  rw [hd] at f
  obtain ⟨r, hr⟩ : ∃ r, d.rows[p.toNat]? = some r := ⟨d.rows[p.toNat]'(by omega), by simp⟩
  obtain ⟨h2, h3⟩ := ho.2.2 r (List.mem_of_getElem? hr)
  obtain ⟨l, hl⟩ : ∃ l, r.ls[e.toNat]? = some l := ⟨r.ls[e.toNat]'(by omega), by simp⟩
  have hi : idx e p = p.toNat * 2 + e.toNat := by unfold idx; omega
  refine ⟨r, l, hr, hl, ?_, h3 l (List.mem_of_getElem? hl), h2, c, f, a, by omega, hi⟩
  rw [hi]
  exact get_flat (fun r hr => (ho.2.2 r hr).1) hr hl (by omega)
theorem map_at {p : Nat} (h : d.rows[p]? = some r) : (d.rows.map rpV)[p]? = some (rpV r) := by rw [List.getElem?_map, h]; rfl
/-- to a lane's cells -/
theorem to_lane {O : HP} (h : Hs W (rcell d :: rrow d :: O :: rpRow r :: L) w) {e p : Int} (hp : (d.rows.map rpV)[p.toNat]? = some (rpV r)) (h0 : 0 ≤ p) (h1 : p < (d.rows.length : Int)) (h2 : r.ls.length = 2) (e0 : 0 ≤ e) (e1 : e < 2) {K : Option Addr → Nat → Nat → Addr → Prop}
    (hk : ∀ ad, r.a = some ad → K (some ad) 2 r.c (ad.add (e.toNat * 5))) : ldC ⟨d.b, 0 + 0, none⟩ w fun l9a l9n l9c => ixS 1 l9a l9n p fun a10 => ldC a10 w fun l11a l11n l11c => ixS 5 l11a l11n e (K l11a l11n l11c) := by
  refine h.ldC 0 rfl rfl ?_
  have hr := h.rd 1 rfl
  obtain ⟨ad, ha⟩ := hr.some (by simp; omega)
  rw [ha] at hr ⊢
  refine ixS_of h0 h1 ?_
  rw [Nat.mul_one]
  refine ldC_c (hr.at hp) ?_
  have hr2 := h.rd 3 rfl
  obtain ⟨ad2, ha2⟩ := hr2.some (by rw [flat_length rlC_len]; omega)
  have := hk ad2 ha2
  rw [ha2]
  exact ixS_of e0 e1 this
theorem cells_in {A B C : HP} (h : Hs W (A :: B :: C :: rpRow r :: L) w) {ad : Addr} (ha : r.a = some ad) {e : Nat} (he : r.ls[e]? = some l) {j : Nat} {v : Value} (hv : (rlC l)[j]? = some v) : w.cell? (ad.add (e * 5 + j)) = some v := by
  have hr := h.rd 3 rfl
  rw [ha] at hr
  exact hr.at (flat_at rlC_len he hv)
/-- a cell of a lane's turns -/
theorem lane_put {A B C : HP} (h : Hs W (A :: B :: C :: rpRow r :: L) w) {ad : Addr} (ha : r.a = some ad) {e : Nat} (he : r.ls[e]? = some l) {j : Nat} {v : Value} (hj : j < 5) {l' : RL} (hv : rlC l' = (rlC l).set j v) {K : World → Prop}
    (hk : ∀ w', Hs W (A :: B :: C :: rpRow { r with ls := r.ls.set e l' } :: L) w' → K w') : stc (ad.add (e * 5 + j)) v w K := by
  have h' : Hs W (A :: B :: C :: slP 98 5 (some ad) 2 r.c (r.ls.flatMap rlC) :: L) w := by
    have e1 : rpRow r = slP 98 5 (some ad) 2 r.c (r.ls.flatMap rlC) := by unfold rpRow; rw [ha]
    rw [e1] at h; exact h
  have hl := (h'.own 3 rfl).length
  have hel := (List.getElem?_eq_some_iff.1 he).1
  refine h'.put 3 rfl (by
    rw [flat_length rlC_len]
    have := Nat.mul_le_mul_right 5 hel
    rw [Nat.succ_mul] at this
    omega) fun w' h2 => hk w' ?_
  have e2 : rpRow { r with ls := r.ls.set e l' } = slP 98 5 (some ad) 2 r.c ((r.ls.flatMap rlC).set (e * 5 + j) v) := by
    unfold rpRow
    simp only [ha]
    rw [flat_set rlC_len he hj hv]
  rw [e2]
  exact h2
theorem r47' (h : Hs W (rdN d :: L) w) (e p i : Int) : Calls Try.prog 47 #[.pointer (some ⟨d.b, 0, none⟩), .int .i64 e, .int .i64 p, .int .i64 i] w (rt (KR (.int .i64 (d.abs.atCode e p i)) w)) := by
  refine F47_ok ?_
  unfold F47
  simp only [rdP_mk, rdI_mk]
  refine clr (r49' h e p) ⟨_, rfl, ?_⟩
  by_cases hh : d.abs.has e p
  · rw [decide_eq_true hh, Bool.not_true, br_false]
    obtain ⟨ho, _⟩ := rd_open.1 h
    obtain ⟨r, l, q1, q2, q3, q4, q5, q6, q7, q8, q9, q10⟩ := lane_in ho hh
    obtain ⟨_, X, h1, _⟩ := ref_focus h q1 q2
    have hm : d.abs.many e p = l.ps.length := by unfold NT.many; rw [q3]; simp [RL.abs]
    simp only [br_dec, nn_some, add_mk]
    refine ⟨fun hi => ?_, fun hi => to_lane h1 (map_at q1) q6 q7 q5 q8 q9 fun ad ha => ?_⟩
    · have : d.abs.atCode e p i = 91 := by unfold NT.atCode; rw [if_pos hh, if_pos (.inl hi)]
      rw [this]; exact KR.mk _ _
    · rw [add_add]
      refine ldC_c (cells_in h1 ha q2 rfl) ⟨fun hi2 => ?_, fun hi2 => ?_⟩
      · have : d.abs.atCode e p i = 91 := by unfold NT.atCode; rw [if_pos hh, hm, if_pos (.inr hi2)]
        rw [this]; exact KR.mk _ _
      · have : d.abs.atCode e p i = 0 := by unfold NT.atCode; rw [if_pos hh, hm, if_neg (by omega)]
        rw [this]; exact KR.mk _ _
  · rw [decide_eq_false hh, Bool.not_false, br_true]
    have : d.abs.atCode e p i = 90 := by unfold NT.atCode; rw [if_neg hh]
    rw [this]; exact KR.mk _ _
end
end Go.Proofs.Ytnmgdeimngcbgaa
