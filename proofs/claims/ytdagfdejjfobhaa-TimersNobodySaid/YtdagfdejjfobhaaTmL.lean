/-
  The laws: awake; one step; TimersRuns.
-/
import Derived.Test.YtdagfdejjfobhaaTmK
namespace Go.Proofs.Ytdagfdejjfobhaa
open Go Go.Sh Go.Tm
theorem awk1 : ins (3, 50) (del 3 []) = [(3, 50)] := by decide
theorem awk2 : ins (1, 50) (del 1 [(3, 50)]) = [(1, 50), (3, 50)] := by decide
theorem awk3 : ins (2, 40) (del 2 [(1, 50), (3, 50)]) = [(2, 40), (1, 50), (3, 50)] := by decide
theorem awk4 : dueN 50 [(2, 40), (1, 50), (3, 50)] = 3 := by decide
/-- the set-up of both tables -/
def tabL (tb : Nat) (la : Option Addr) (lc m n : Nat) (h : Nat → Du) (last : Int) (f : Int → Option Int) : List HP := hpL tb la lc m n h last ++ [mapP .i64 .i64 m f]
def BO (W : World) (P L : List HP) (tb rb : Nat) (last : Int) (l : List Du) (w : World) : Prop :=
  ∃ la lc m n h f a c, TI n h f l ∧ Hs W (P ++ (tabL tb la lc m n h last f ++ (refL rb a c l last ++ L))) w
section
variable {W w : World} {L M P : List HP} {tb rb j : Nat} {last : Int} {l l' : List Du} {d : Du}
theorem TB.cast {L' : List HP} (t : TB W P L tb last l w) (e : L = L') : TB W P L' tb last l w := e ▸ t
theorem BO.same {w' : World} (t : BO W P L tb rb last l w) (s : Same w w') : BO W P L tb rb last l w' := by
  obtain ⟨la, lc, m, n, h, f, a, c, t, hs⟩ := t
  exact ⟨la, lc, m, n, h, f, a, c, t, hs.same s⟩
theorem BO.old (t : BO W P L tb rb last l w) : Same W w := by
  obtain ⟨_, _, _, _, _, _, _, _, _, hs⟩ := t
  exact hs.old
theorem TB.perm {L' : List HP} (t : TB W P L tb last l w) (p : L.Perm L') : TB W P L' tb last l w := by
  obtain ⟨la, lc, m, n, h, f, t, hs⟩ := t
  exact ⟨la, lc, m, n, h, f, t, hs.perm (List.Perm.append_left P (List.Perm.append_left _ (List.Perm.cons _ p)))⟩
theorem BO.prg (t : BO W [] L tb rb last l w) : ∃ a c, TB W [] (refL rb a c l last ++ L) tb last l w := by
  obtain ⟨la, lc, m, n, h, f, a, c, t, hs⟩ := t
  exact ⟨a, c, la, lc, m, n, h, f, t, hs⟩
theorem TB.rf {a : Option Addr} {c : Nat} {l0 : List Du} {last0 : Int} (t : TB W [] (refL rb a c l0 last0 ++ L) tb last l w) : ∃ la lc m n h f, TI n h f l ∧ RF W [] (tabL tb la lc m n h last f ++ L) rb last0 l0 w := by
  obtain ⟨la, lc, m, n, h, f, t, hs⟩ := t
  have hs : Hs W (tabL tb la lc m n h last f ++ (refL rb a c l0 last0 ++ L)) w := hs
  exact ⟨la, lc, m, n, h, f, t, a, c, (show Hs W (refL rb a c l0 last0 ++ (tabL tb la lc m n h last f ++ L)) w from Hs.flip.1 hs)⟩
theorem RF.bo {la : Option Addr} {lc m n : Nat} {h : Nat → Du} {f : Int → Option Int} (t : TI n h f l) (r : RF W P (tabL tb la lc m n h last f ++ L) rb last l w) : BO W P L tb rb last l w := by
  obtain ⟨a, c, hs⟩ := r
  exact ⟨la, lc, m, n, h, f, a, c, t, hs.perm (List.Perm.append_left P (List.perm_append_comm_assoc _ _ _))⟩
theorem rd_blk {b : Nat} {cs : Array Value} {T : TypeId} {z : Nat × Nat} {xs : List Value} (h : w.heap[b]? = some (.cells cs T z)) (hx : cs.toList = xs) : Rd w (some ⟨b, 0, none⟩) xs := by
  intro j u hj
  refine ⟨_, rfl, ?_⟩
  rw [add_mk, Nat.zero_add, cell_at h]
  rw [← hx] at hj
  simpa using hj
theorem c8 (w : World) : Calls Try.prog 8 #[] w (rt fun v w' => v = .bool true ∧ Same w w') := by
  refine F8_ok ?_
  unfold F8
  refine cl (c7 (Hs.start w)) ?_
  rintro _ w1 ⟨tb, rfl, t1⟩
  refine ⟨_, rfl, ?_⟩
  simp only [Option.isNone_some]
  rw [br_false]
  have one : ∀ {l : List Du} {w1 : World} (d : Du), isI d.1 → isT d.2 → TB w [] [] tb 0 l w1 → ∀ K : Ending → World → Prop, (∀ w2, TB w [] [] tb 0 (ins d (del d.1 l)) w2 → K (.returned (.int .i64 0)) w2) → Calls Try.prog 9 #[.pointer (some ⟨tb, 0, none⟩), .int .i64 d.1, .int .i64 d.2] w1 K := by
    intro l w1 d hi ht t K hK
    refine cl (c9 t d) ?_
    rintro _ w2 (⟨hn, _⟩ | ⟨_, hn, _⟩ | ⟨_, _, rfl, t2⟩)
    · exact absurd hi hn
    · exact absurd ht hn
    · exact hK w2 t2
  refine one (3, 50) (by decide) (by decide) t1 _ fun w2 t2 => ⟨_, rfl, ?_⟩
  rw [show ((0 : Int) != 0) = false from rfl, br_false]
  rw [awk1] at t2
  refine one (1, 50) (by decide) (by decide) t2 _ fun w3 t3 => ⟨_, rfl, ?_⟩
  rw [show ((0 : Int) != 0) = false from rfl, br_false]
  rw [awk2] at t3
  refine one (2, 40) (by decide) (by decide) t3 _ fun w4 t4 => ⟨_, rfl, ?_⟩
  rw [show ((0 : Int) != 0) = false from rfl, br_false]
  rw [awk3] at t4
  unfold F8_1
  simp only [rdP_mk]
  refine cl (c10 t4 50) ?_
  rintro _ w5 (⟨hn, _⟩ | ⟨_, _, a, c, rfl, t5⟩)
  · exact absurd ⟨by decide, by decide⟩ hn
  refine ⟨_, _, _, _, rfl, ?_⟩
  rw [show ((0 : Int) == 0) = true from rfl, br_true]
  rw [awk4] at t5 ⊢
  obtain ⟨la, lc, m, n, h, f, t, hs⟩ := t5
  have hs : Hs w (hpL tb la lc m n h 50 ++ (mapP .i64 .i64 m f :: slP 30 2 a ([(2, 40), (1, 50), (3, 50)] : List Du).length c (duV [(2, 40), (1, 50), (3, 50)]) :: [])) w5 := hs
  refine hs.alc fun b6 w6 h6 => ?_
  have r1 : Rd w6 a (duV [(2, 40), (1, 50), (3, 50)]) := h6.rd 4 rfl
  have r2 : Rd w6 (some ⟨b6, 0, none⟩) (duV [(2, 40), (1, 50), (3, 50)]) := rd_blk (h6.at 0 rfl) rfl
  refine cl (c12 (l1 := [(2, 40), (1, 50), (3, 50)]) (l2 := [(2, 40), (1, 50), (3, 50)]) r1 r2 (by decide)) ?_
  rintro _ w7 ⟨rfl, s7⟩
  refine ⟨_, rfl, ?_⟩
  intro _g
  simp only [rdB_mk]
  exact ⟨by first | rfl | trivial | simp, h6.old.trans s7 fun _ _ x => x⟩
theorem BO.drop (t : BO W P L tb rb last l w) : BO W [] L tb rb last l w := by
  obtain ⟨la, lc, m, n, h, f, a, c, t, hs⟩ := t
  exact ⟨la, lc, m, n, h, f, a, c, t, Hs.dropL hs⟩
/-- an act, on the plain list -/
def actT (o : R38) (x : Int × List Du) : Int × List Du :=
  if o.f0 = 1 then (if isI o.f1 ∧ isT o.f2 then (x.1, ins (o.f1, o.f2) (del o.f1 x.2)) else x)
  else if o.f0 = 2 then (if isI o.f1 then (x.1, del o.f1 x.2) else x)
  else if o.f0 = 3 then (if isT o.f2 ∧ x.1 ≤ o.f2 then (o.f2, x.2.drop (dueN o.f2 x.2)) else x)
  else x
abbrev oP (b : Nat) (o : R38) : HP := pt b (.cells o.c 39 (0, 0))
/-- what is to be seen of both tables is alike -/
theorem c17_1 {o : R38} {b4 : Nat} {Kr : Value → World → Prop} (hl : l.length ≤ 4096) (t : BO W [] (oP b4 o :: L) tb rb last l w) (hK : ∀ w', BO W [] (oP b4 o :: L) tb rb last l w' → Kr (.bool true) w') :
    F17_1 Kr (.pointer (some ⟨tb, 0, none⟩)) (.pointer (some ⟨rb, 0, none⟩)) (.pointer (some ⟨b4, 0, none⟩)) w := by
  unfold F17_1
  simp only [rdP_mk, rdA_mk]
  obtain ⟨a, c, t1⟩ := t.prg
  refine cl (c19 t1) ?_
  rintro _ w1 ⟨t2, rfl⟩
  refine ⟨_, _, _, rfl, ?_⟩
  obtain ⟨la, lc, m, n, h, f, ti, r2⟩ := t2.rf
  obtain ⟨d, hd⟩ : ∃ d, d = l.head?.getD (0, 0) := ⟨_, rfl⟩
  rw [← hd]
  obtain ⟨a2, c2, h2⟩ := r2
  have h2 : Hs W (refL rb a2 c2 l last ++ (tabL tb la lc m n h last f ++ (oP b4 o :: L))) w1 := h2
  refine h2.alc fun b9 w2 h3 => ?_
  simp only [add_mk]
  refine h3.stc 0 rfl (by simp) fun w3 h4 => h4.stc 0 rfl (by simp) fun w4 h5 => ?_
  have h5 : Hs W ([dP b9 d] ++ (refL rb a2 c2 l last ++ (tabL tb la lc m n h last f ++ (oP b4 o :: L)))) w4 := h5
  have r5 : RF W [] (dP b9 d :: (tabL tb la lc m n h last f ++ (oP b4 o :: L))) rb last l w4 := ⟨a2, c2, (show Hs W (refL rb a2 c2 l last ++ ([dP b9 d] ++ (tabL tb la lc m n h last f ++ (oP b4 o :: L)))) w4 from Hs.flip.1 h5)⟩
  refine cl (c34 r5) ?_
  rintro _ w5 ⟨⟨a3, c3, h6⟩, rfl⟩
  rw [← hd]
  refine ⟨_, _, _, rfl, ?_⟩
  have h6 : Hs W (refL rb a3 c3 l last ++ (dP b9 d :: (tabL tb la lc m n h last f ++ (oP b4 o :: L)))) w5 := h6
  refine h6.alc fun b18 w6 h7 => ?_
  refine h7.stc 0 rfl (by simp) fun w7 h8 => h8.stc 0 rfl (by simp) fun w8 h9 => ?_
  have h9 : Hs W (dP b18 d :: (refL rb a3 c3 l last ++ (dP b9 d :: (tabL tb la lc m n h last f ++ (oP b4 o :: L))))) w8 := h9
  refine h9.ldI 7 rfl rfl ?_
  have perm : ∀ w', Hs W (dP b18 d :: (refL rb a3 c3 l last ++ (dP b9 d :: (tabL tb la lc m n h last f ++ (oP b4 o :: L))))) w' → TB W [] (dP b9 d :: dP b18 d :: (refL rb a3 c3 l last ++ (oP b4 o :: L))) tb last l w' := fun w' hw => ⟨la, lc, m, n, h, f, ti, by
    refine hw.perm ?_
    show (dP b18 d :: (refL rb a3 c3 l last ++ ([dP b9 d] ++ (tabL tb la lc m n h last f ++ (oP b4 o :: L))))).Perm (tabL tb la lc m n h last f ++ (dP b9 d :: dP b18 d :: (refL rb a3 c3 l last ++ (oP b4 o :: L))))
    generalize refL rb a3 c3 l last = R
    generalize tabL tb la lc m n h last f = T
    generalize (oP b4 o :: L) = Z
    have p1 : (dP b18 d :: (R ++ ([dP b9 d] ++ (T ++ Z)))).Perm (dP b18 d :: (T ++ ([dP b9 d] ++ (R ++ Z)))) := List.Perm.cons _ (by
      have q1 : (R ++ ([dP b9 d] ++ (T ++ Z))).Perm ([dP b9 d] ++ (R ++ (T ++ Z))) := List.perm_append_comm_assoc _ _ _
      have q2 : ([dP b9 d] ++ (R ++ (T ++ Z))).Perm ([dP b9 d] ++ (T ++ (R ++ Z))) := List.Perm.append_left _ (List.perm_append_comm_assoc _ _ _)
      have q3 : ([dP b9 d] ++ (T ++ (R ++ Z))).Perm (T ++ ([dP b9 d] ++ (R ++ Z))) := List.perm_append_comm_assoc _ _ _
      exact (q1.trans q2).trans q3)
    have p2 : (dP b18 d :: (T ++ (dP b9 d :: (R ++ Z)))).Perm (T ++ (dP b18 d :: dP b9 d :: (R ++ Z))) := List.perm_middle.symm
    exact (p1.trans p2).trans (List.Perm.append_left _ (List.Perm.swap _ _ _))⟩
  have t9 := perm w8 h9
  refine clr (c18 t9 o.f1) ⟨_, _, rfl, ?_⟩
  refine h9.ldI 7 rfl rfl ?_
  have r9 : RF W [dP b18 d] (dP b9 d :: (tabL tb la lc m n h last f ++ (oP b4 o :: L))) rb last l w8 := ⟨a3, c3, h9⟩
  refine clr (c35 r9 (by omega) o.f1) ⟨_, _, rfl, ?_⟩
  refine h9.drw fun w9 h10 => ?_
  refine ⟨Sh.lone w9 rb (.cells #[.slice a3 l.length c3, .int .i64 last] 46 (0, 0)), Pres.lone (h10.at 1 rfl), ?_⟩
  refine h10.ldI 3 rfl rfl (h10.ldI 3 rfl rfl (h10.ldI 0 rfl rfl (h10.ldI 0 rfl rfl ?_)))
  have key := eql_flat (P := Try.prog) (w := w9) (t := 30) (x := .tmp 113) (y := .tmp 114) (vs := du d) (us := du d) t30 (mdu d) (mdu d)
  rw [eqvs_self (mdu d)] at key
  refine ⟨_, _, key, Pres.lone (h10.at 1 rfl), ?_⟩
  rw [br_true, beq_self_eq_true, br_true, beq_self_eq_true, br_true, beq_self_eq_true, br_true]
  simp only [nn_some, add_mk]
  refine ldC_at (lone_at _ _ _) rfl ?_
  have t10 := perm w9 h10
  refine clr (c16 t10) ⟨_, rfl, Pres.lone (h10.at 1 rfl), ?_⟩
  rw [beq_self_eq_true, br_true]
  refine ldC_at (lone_at _ _ _) rfl ?_
  refine cl (c13 t10) ?_
  rintro _ w10 ⟨a4, c4, rfl, la', lc', m', n', h', f', ti', h11⟩
  have h11 : Hs W (slP 30 2 a4 l.length c4 (duV l) :: (tabL tb la' lc' m' n' h' last f' ++ (dP b9 d :: dP b18 d :: (refL rb a3 c3 l last ++ (oP b4 o :: L))))) w10 := h11
  refine ⟨_, _, _, rfl, Pres.lone (h11.at 6 rfl), ?_⟩
  refine cl (c12 (l1 := l) (l2 := l) (h11.rd 0 rfl) (h11.rd 7 rfl) (by omega)) ?_
  rintro _ w11 ⟨rfl, s11⟩
  refine ⟨_, rfl, ?_⟩
  have e : decide (l = l) = true := by simp
  rw [e]
  refine hK w11 ⟨la', lc', m', n', h', f', a3, c3, ti', ?_⟩
  have h12 := (h11.same s11).drop
  have h13 := (h12.perm List.perm_middle).drop
  exact (h13.perm List.perm_middle).drop
end
end Go.Proofs.Ytdagfdejjfobhaa
