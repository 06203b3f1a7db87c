/-
  Every answer of a table (ReasmRuns).
-/
import Derived.Test.YtaflmpbeonoilaaRmRn
import Derived.Test.YtaflmpbeonoilaaRmX
namespace Go.Proofs.Ytaflmpbeonoilaa
open Go Go.Sh Go.RowKit
def actS (s : St) (o : Ox) : St := if o.k = 1 then putT s ⟨o.x, o.b⟩ else if o.k = 2 then takeS s else if o.k = 3 then dropT s o.t else if o.k = 4 then moveS s o.t else s
structure OkR (s : St) (n : Nat) (lim : Int) : Prop extends OkL s n lim where
  quiet : Quiet s
  bys : ByS s
section
variable {W w : World} {L M Z : List HP} {rb tb n : Nat} {s : St} {lim : Int}
theorem c21_1 {Kr : Value → World → Prop} {b4 : Nat} {o : Ox} (hok : OkR s n lim) (ht : 0 ≤ o.t ∧ o.t < 4294967296) (hK : ∀ w', Hs W (tabP tb (tot s) s :: refP rb s (heads s) :: Z) w' → Kr (.bool true) w')
    (h : Hs W (pt b4 (.cells o.r.c 59 (0, 0)) :: tabP tb (tot s) s :: refP rb s (heads s) :: Z) w) :
    F21_1 Kr (.pointer (some ⟨tb, 0, none⟩)) (.pointer (some ⟨rb, 0, none⟩)) (.pointer (some ⟨b4, 0, none⟩)) w := by
  have hcnt := hok.cnt
  have hml := ms_len hok.toOkB
  have h0 : Hs W (refP rb s (heads s) :: tabP tb (tot s) s :: pt b4 (.cells o.r.c 59 (0, 0)) :: Z) w := h.perm (by
    have p1 : ([pt b4 (.cells o.r.c 59 (0, 0)), tabP tb (tot s) s, refP rb s (heads s)] ++ Z).Perm ([refP rb s (heads s), tabP tb (tot s) s, pt b4 (.cells o.r.c 59 (0, 0))] ++ Z) := List.Perm.append_right Z (List.reverse_perm _).symm
    exact p1)
  obtain ⟨d, hi, h1⟩ := ref_open h0
  unfold F21_1
  simp only [rdP_mk, rdA_mk, nn_some, add_mk]
  refine h1.drw fun w4 h4 => ?_
  have two : ∀ {w'}, Hs W (refL rb d s (heads s) ++ (tabP tb (tot s) s :: pt b4 (.cells o.r.c 59 (0, 0)) :: Z)) w' → w'.heap[rb]? = some (.cells (refC d s (heads s)) 86 (0, 0)) ∧ w'.heap[b4]? = some (.cells o.r.c 59 (0, 0)) := fun h' => ⟨h'.at 0 rfl, h'.at 9 rfl⟩
  have hne : rb ≠ b4 := h4.ne 0 9 rfl rfl
  obtain ⟨w5, hw5⟩ : ∃ w5, w5 = duo w4 rb (.cells (refC d s (heads s)) 86 (0, 0)) b4 (.cells o.r.c 59 (0, 0)) := ⟨_, rfl⟩
  have pre : ∀ {w'}, Hs W (refL rb d s (heads s) ++ (tabP tb (tot s) s :: pt b4 (.cells o.r.c 59 (0, 0)) :: Z)) w' → Pres w5 w' := fun h' => by
    rw [hw5]; exact Pres.duo (two h').1 (two h').2 hne
  refine ⟨w5, pre h4, ?_⟩
  have toT : ∀ {w'}, Hs W (refL rb d s (heads s) ++ (tabP tb (tot s) s :: pt b4 (.cells o.r.c 59 (0, 0)) :: Z)) w' → Hs W (tabP tb (tot s) s :: (refL rb d s (heads s) ++ (pt b4 (.cells o.r.c 59 (0, 0)) :: Z))) w' := fun h' => Hs.ahead h'
  have toR : ∀ {w'}, Hs W (tabP tb (tot s) s :: (refL rb d s (heads s) ++ (pt b4 (.cells o.r.c 59 (0, 0)) :: Z))) w' → Hs W (refL rb d s (heads s) ++ (tabP tb (tot s) s :: pt b4 (.cells o.r.c 59 (0, 0)) :: Z)) w' := fun h' => Hs.behind h'
  refine clr (c18s (toT h4)) ⟨_, rfl, pre h4, ?_⟩
  refine clr (c43 hi hok.tot (by omega) (by omega) h4) ⟨_, rfl, pre h4, ?_⟩
  have e0 : ((tot s : Int) == (tot s : Int)) = true := by simp
  rw [e0, br_true]
  refine ldC_at (b := rb) (o := 3) (by rw [hw5]; exact duo_1 _ _ _ _ _) rfl ?_
  refine clr (c16s (toT h4)) ⟨_, rfl, pre h4, ?_⟩
  have hdm : d.ms.length = s.M.length := by rw [← hi.M, List.length_map]
  show br ((s.M.length : Int) == ((d.ms.length : Nat) : Int)) _ _
  have e1 : ((s.M.length : Int) == ((d.ms.length : Nat) : Int)) = true := by rw [hdm]; simp
  rw [e1, br_true]
  refine cl (c19s hok.toOkB (toT h4)) ?_
  rintro _ w6 ⟨a6, c6, rfl, g6⟩
  have g6' := Hs.behind (L := refL rb d s (heads s)) (A := slP 30 1 a6 (srt (keys s.L)).length c6 (inV .u32 (srt (keys s.L)))) (M := tabP tb (tot s) s :: pt b4 (.cells o.r.c 59 (0, 0)) :: Z) (w := w6) (W := W) (by
    have p1 := g6.perm (List.Perm.cons _ (List.perm_middle (a := tabP tb (tot s) s) (l₁ := refL rb d s (heads s)) (l₂ := pt b4 (.cells o.r.c 59 (0, 0)) :: Z)).symm)
    exact p1)
  have drp : ∀ {w' A}, Hs W (refL rb d s (heads s) ++ (A :: tabP tb (tot s) s :: pt b4 (.cells o.r.c 59 (0, 0)) :: Z)) w' → Hs W (refL rb d s (heads s) ++ (tabP tb (tot s) s :: pt b4 (.cells o.r.c 59 (0, 0)) :: Z)) w' := fun h' => (Hs.ahead h').drop
  refine ⟨_, _, _, rfl, pre (drp g6'), ?_⟩
  refine cl (c44 hi hok.key (by omega) g6') ?_
  rintro _ w7 ⟨a7, c7, rfl, g7⟩
  refine ⟨_, _, _, rfl, pre (drp g7.drop), ?_⟩
  have hsl : (srt (keys s.L)).length ≤ 4294967296 := by
    rw [srt_len]
    have : (keys s.L).length = s.L.length := by simp
    omega
  refine cl (c15 (g7.rd 9 rfl) (g7.rd 0 rfl) hsl) ?_
  rintro _ w8 ⟨rfl, s8⟩
  have g8 := drp (g7.same s8).drop
  refine ⟨_, rfl, pre g8, ?_⟩
  have e2 : decide (srt (keys s.L) = srt (keys s.L)) = true := by simp
  rw [e2, br_true]
  refine g8.ldI 9 rfl rfl ?_
  refine ldI_at (b := b4) (o := 16) (by rw [hw5]; exact duo_2 _ _ _ hne) rfl ?_
  refine cl (c14s (cum := o.t) hok.toOkB (toT g8)) ?_
  rintro _ w9 ⟨a9, c9, rfl, g9⟩
  have g9' := Hs.behind (L := refL rb d s (heads s)) (A := slP 30 1 a9 (fixS s.F o.t).length c9 (inV .u32 (fixS s.F o.t))) (M := tabP tb (tot s) s :: pt b4 (.cells o.r.c 59 (0, 0)) :: Z) (w := w9) (W := W) (by
    have p1 := g9.perm (List.Perm.cons _ (List.perm_middle (a := tabP tb (tot s) s) (l₁ := refL rb d s (heads s)) (l₂ := pt b4 (.cells o.r.c 59 (0, 0)) :: Z)).symm)
    exact p1)
  refine ⟨_, _, _, rfl, pre (drp g9'), ?_⟩
  refine cl (c45 (cum := o.t) ht hok.fix hok.frng (by omega) g9') ?_
  rintro _ w10 ⟨a10, c10, rfl, g10⟩
  refine ⟨_, _, _, rfl, ?_⟩
  have hfl : (fixS s.F o.t).length ≤ 4294967296 := by
    unfold fixS
    rw [List.length_mergeSort]
    have := List.length_filter_le (nearB o.t) s.F
    omega
  refine cl (c15 (g10.rd 9 rfl) (g10.rd 0 rfl) hfl) ?_
  rintro _ w11 ⟨rfl, s11⟩
  refine ⟨_, rfl, ?_⟩
  have e3 : decide (fixS s.F o.t = fixS s.F o.t) = true := by simp
  rw [e3]
  have g11 := drp (g10.same s11).drop
  refine hK w11 ?_
  have g12 := ref_shut hi g11
  have g13 : Hs W (tabP tb (tot s) s :: refP rb s (heads s) :: pt b4 (.cells o.r.c 59 (0, 0)) :: Z) w11 := g12.perm (List.Perm.swap _ _ _)
  have g14 : Hs W ([tabP tb (tot s) s, refP rb s (heads s)] ++ pt b4 (.cells o.r.c 59 (0, 0)) :: Z) w11 := g13
  exact (Hs.ahead g14).drop
theorem at_o {w : World} {b : Nat} {o : Ox} {T : TypeId} {z : Nat × Nat} (h : w.heap[b]? = some (.cells o.r.c T z)) : At w ⟨b, 1, none⟩ o.x.l := by
  have := at_blk h
  exact Ox.at_x (a := ⟨b, 0, none⟩) this
theorem c21 {o : Ox} (hok : OkR s n lim) (hoo : OxOk W o) (h : Hs W (tabP tb (tot s) s :: refP rb s (heads s) :: Z) w) :
    Calls Try.prog 21 #[.pointer (some ⟨tb, 0, none⟩), .pointer (some ⟨rb, 0, none⟩), o.r.v] w (rt fun v w' => v = .bool true ∧ OkR (actS s o) n lim ∧ Hs W (tabP tb (tot (actS s o)) (actS s o) :: refP rb (actS s o) (heads (actS s o)) :: Z) w') := by
  refine F21_ok ?_
  unfold F21
  simp only [rdP_mk]
  refine exR58_of o.r ⟨rfl, ?_⟩
  refine h.alc fun b4 w5 h5 => ?_
  have hlim : 0 ≤ s.lim ∧ s.lim ≤ 1073741824 := by rw [hok.limE]; have := hok.limR; omega
  have hnx : s.nx.length ≤ 65536 := by rw [hok.nxl]; have := hok.nR; omega
  have fin : ∀ {Kr : Value → World → Prop} {s' : St} {w'}, OkR s' n lim → s' = actS s o → (∀ w', OkR (actS s o) n lim → Hs W (tabP tb (tot (actS s o)) (actS s o) :: refP rb (actS s o) (heads (actS s o)) :: Z) w' → Kr (.bool true) w') → Hs W (pt b4 (.cells o.r.c 59 (0, 0)) :: tabP tb (tot s') s' :: refP rb s' (heads s') :: Z) w' →
      F21_1 Kr (.pointer (some ⟨tb, 0, none⟩)) (.pointer (some ⟨rb, 0, none⟩)) (.pointer (some ⟨b4, 0, none⟩)) w' := by
    intro Kr s' w' hok' he hk h'
    subst he
    exact c21_1 (n := n) (lim := lim) hok' hoo.t (fun w2 h2 => hk w2 hok' h2) h'
  refine h5.ldI 0 rfl rfl ?_
  show br (o.k == 1) _ _
  rw [br_iff]
  refine ⟨fun hk => ?_, fun hk1 => ?_⟩
  · have hk' : o.k = 1 := by simpa using hk
    have ea : actS s o = putT s ⟨o.x, o.b⟩ := by unfold actS; rw [if_pos hk']
    have hokp : OkR (putT s ⟨o.x, o.b⟩) n lim := ⟨hok.toOkL.put hoo.ck, quiet_put hok.toOkB hoo.ck hlim.2 hok.quiet, hok.bys.put hoo.by8⟩
    refine h5.drw fun w7 h7 => ⟨Sh.lone w7 b4 (.cells o.r.c 59 (0, 0)), Pres.lone (h7.at 0 rfl), ?_⟩
    simp only [add_mk]
    refine ldR35_of (s := o.x) (at_o (h7.at 0 rfl)) ?_
    refine ldR35_of (s := o.x) (at_o (lone_at w7 b4 _)) ?_
    have g7 : Hs W (tabP tb (tot s) s :: (pt b4 (.cells o.r.c 59 (0, 0)) :: refP rb s (heads s) :: Z)) w7 := h7.perm (List.Perm.swap _ _ _)
    refine cl (c11 (x := o.x) (b := o.b) hok.toOkB hoo.ck hoo.len hlim hnx (fun w' h' => h'.rd_old hoo.rd) g7) ?_
    rintro _ w8 ⟨rfl, g8⟩
    refine ⟨_, rfl, Pres.lone (g8.at 1 rfl), ?_⟩
    have g9 : Hs W (refP rb s (heads s) :: pt b4 (.cells o.r.c 59 (0, 0)) :: tabP tb (tot (putT s ⟨o.x, o.b⟩)) (putT s ⟨o.x, o.b⟩) :: Z) w8 := g8.perm (by
      have p1 : ([tabP tb (tot (putT s ⟨o.x, o.b⟩)) (putT s ⟨o.x, o.b⟩), pt b4 (.cells o.r.c 59 (0, 0)), refP rb s (heads s)] ++ Z).Perm ([refP rb s (heads s), pt b4 (.cells o.r.c 59 (0, 0)), tabP tb (tot (putT s ⟨o.x, o.b⟩)) (putT s ⟨o.x, o.b⟩)] ++ Z) := List.Perm.append_right Z (List.reverse_perm _).symm
      exact p1)
    refine cl (c38 (x := o.x) (b := o.b) hok.toOkB hok.quiet hoo.ck hoo.len hlim hnx (fun w' h' => h'.rd_old hoo.rd) g9) ?_
    rintro _ w10 ⟨rfl, g10⟩
    refine ⟨_, rfl, ?_⟩
    have e0 : (putE s ⟨o.x, o.b⟩ != putE s ⟨o.x, o.b⟩) = false := by simp
    rw [e0, br_false]
    refine fin hokp ea.symm (fun w' k1 k2 _g => ?_) ?_
    · simp only [rdB_mk]
      exact ⟨by first | rfl | trivial, k1, k2⟩
    · have p2 : ([refP rb (putT s ⟨o.x, o.b⟩) (heads (putT s ⟨o.x, o.b⟩)), pt b4 (.cells o.r.c 59 (0, 0)), tabP tb (tot (putT s ⟨o.x, o.b⟩)) (putT s ⟨o.x, o.b⟩)] ++ Z).Perm ([pt b4 (.cells o.r.c 59 (0, 0)), tabP tb (tot (putT s ⟨o.x, o.b⟩)) (putT s ⟨o.x, o.b⟩), refP rb (putT s ⟨o.x, o.b⟩) (heads (putT s ⟨o.x, o.b⟩))] ++ Z) := List.Perm.append_right Z (List.perm_append_comm (l₁ := [_]) (l₂ := [_, _]))
      exact g10.perm p2
  have hn1 : o.k ≠ 1 := by simpa using hk1
  show br (o.k == 2) _ _
  rw [br_iff]
  refine ⟨fun hk => ?_, fun hk2 => ?_⟩
  · have hk' : o.k = 2 := by simpa using hk
    have ea : actS s o = takeS s := by unfold actS; rw [if_neg hn1, if_pos hk']
    have hokp : OkR (takeS s) n lim := ⟨hok.toOkL.take, quiet_take hok.quiet, hok.bys.take⟩
    have g5 : Hs W (tabP tb (tot s) s :: (pt b4 (.cells o.r.c 59 (0, 0)) :: refP rb s (heads s) :: Z)) w5 := h5.perm (List.Perm.swap _ _ _)
    refine cl (c13a hok.tot g5) ?_
    rintro _ w6 ⟨r, a, c, rfl, hm⟩
    refine exR38_of r ⟨_, rfl, ?_⟩
    cases hh : s.M.head? with
    | none =>
      rw [hh] at hm
      obtain ⟨rfl, g6⟩ := hm
      refine g6.alc fun b25 w7 g7 => ?_
      refine g7.stcL 0 rfl rfl fun w8 g8 => ?_
      have g9 : Hs W (refP rb s (heads s) :: (pt b25 (.cells R38.z.c 39 (0, 0)) :: tabP tb (tot (takeS s)) (takeS s) :: pt b4 (.cells o.r.c 59 (0, 0)) :: Z)) w8 := g8.perm (List.perm_middle (l₁ := [_, _, _]))
      refine cl (c39a hok.toOkB g9) ?_
      rintro _ w9 ⟨r2, a2, c2, rfl, hm2⟩
      rw [hh] at hm2
      obtain ⟨rfl, g10⟩ := hm2
      refine exR38_of R38.z ⟨_, rfl, ?_⟩
      refine g10.alc fun b32 w11 g11 => ?_
      refine g11.stcL 0 rfl rfl fun w12 g12 => ?_
      rw [hh]
      have e0 : (Option.isSome (none : Option Ms) == Option.isSome (none : Option Ms)) = true := rfl
      rw [e0]
      simp only [Bool.not_true, br_false]
      have g12 : Hs W (pt b32 (.cells R38.z.c 39 (0, 0)) :: refP rb (takeS s) (heads (takeS s)) :: pt b25 (.cells R38.z.c 39 (0, 0)) :: tabP tb (tot (takeS s)) (takeS s) :: pt b4 (.cells o.r.c 59 (0, 0)) :: Z) w12 := g12
      refine ldR38_of (s := R38.z) (g12.atL 2 rfl) (ldR38_of (s := R38.z) (g12.atL 0 rfl) ?_)
      have hz : R38.z = (⟨0, 0, 0, false, []⟩ : Ms).rc none 0 := rfl
      rw [hz]
      refine cl (c40 (Rd.nil _ _) (Rd.nil _ _) (fun x hx => by cases hx)) ?_
      rintro _ w13 ⟨rfl, s13⟩
      refine ⟨_, rfl, ?_⟩
      simp only [Bool.not_true, br_false]
      refine fin hokp ea.symm (fun w' k1 k2 _g => ?_) ?_
      · simp only [rdB_mk]
        exact ⟨by first | rfl | trivial, k1, k2⟩
      · have g13 := g12.same s13
        have g14 := (g13.erase 0).erase 1
        have g15 : Hs W ([refP rb (takeS s) (heads (takeS s)), tabP tb (tot (takeS s)) (takeS s), pt b4 (.cells o.r.c 59 (0, 0))] ++ Z) w13 := g14
        exact g15.perm (List.Perm.append_right Z (List.reverse_perm _).symm)
    | some m =>
      rw [hh] at hm
      obtain ⟨rfl, g6⟩ := hm
      refine g6.alc fun b25 w7 g7 => ?_
      refine g7.stcL 0 rfl rfl fun w8 g8 => ?_
      have g9 : Hs W (refP rb s (heads s) :: (pt b25 (.cells (m.rc a c).c 39 (0, 0)) :: tabP tb (tot (takeS s)) (takeS s) :: slP 5 1 a m.d.length c (inV .u8 m.d) :: pt b4 (.cells o.r.c 59 (0, 0)) :: Z)) w8 := g8.perm (List.perm_middle (l₁ := [_, _, _, _]))
      refine cl (c39a hok.toOkB g9) ?_
      rintro _ w9 ⟨r2, a2, c2, rfl, hm2⟩
      rw [hh] at hm2
      obtain ⟨rfl, g10⟩ := hm2
      refine exR38_of (m.rc a2 c2) ⟨_, rfl, ?_⟩
      refine g10.alc fun b32 w11 g11 => ?_
      refine g11.stcL 0 rfl rfl fun w12 g12 => ?_
      rw [hh]
      have e0 : (Option.isSome (some m) == Option.isSome (some m)) = true := rfl
      rw [e0]
      simp only [Bool.not_true, br_false]
      have g12 : Hs W (pt b32 (.cells (m.rc a2 c2).c 39 (0, 0)) :: refP rb (takeS s) (heads (takeS s)) :: slP 5 1 a2 m.d.length c2 (inV .u8 m.d) :: pt b25 (.cells (m.rc a c).c 39 (0, 0)) :: tabP tb (tot (takeS s)) (takeS s) :: slP 5 1 a m.d.length c (inV .u8 m.d) :: pt b4 (.cells o.r.c 59 (0, 0)) :: Z) w12 := g12
      refine ldR38_of (s := m.rc a c) (g12.atL 3 rfl) (ldR38_of (s := m.rc a2 c2) (g12.atL 0 rfl) ?_)
      have hmm : m ∈ s.M := List.mem_of_mem_head? (by rw [hh]; rfl)
      refine cl (c40 (g12.rd 5 rfl) (g12.rd 2 rfl) (hok.bys.M m hmm)) ?_
      rintro _ w13 ⟨rfl, s13⟩
      refine ⟨_, rfl, ?_⟩
      simp only [Bool.not_true, br_false]
      refine fin hokp ea.symm (fun w' k1 k2 _g => ?_) ?_
      · simp only [rdB_mk]
        exact ⟨by first | rfl | trivial, k1, k2⟩
      · have g13 := g12.same s13
        have g14 := (((g13.erase 0).erase 1).erase 1).erase 2
        have g15 : Hs W ([refP rb (takeS s) (heads (takeS s)), tabP tb (tot (takeS s)) (takeS s), pt b4 (.cells o.r.c 59 (0, 0))] ++ Z) w13 := g14
        exact g15.perm (List.Perm.append_right Z (List.reverse_perm _).symm)
  have hn2 : o.k ≠ 2 := by simpa using hk2
  show br (o.k == 3) _ _
  rw [br_iff]
  refine ⟨fun hk => ?_, fun hk3 => ?_⟩
  · have hk' : o.k = 3 := by simpa using hk
    have ea : actS s o = dropT s o.t := by unfold actS; rw [if_neg hn1, if_neg hn2, if_pos hk']
    have hokp : OkR (dropT s o.t) n lim := ⟨hok.toOkL.drop o.t, quiet_dropT hok.toOkB hok.quiet o.t, hok.bys.drop o.t⟩
    simp only [add_mk]
    refine h5.ldI 0 rfl rfl ?_
    have g5 : Hs W (tabP tb (tot s) s :: (pt b4 (.cells o.r.c 59 (0, 0)) :: refP rb s (heads s) :: Z)) w5 := h5.perm (List.Perm.swap _ _ _)
    refine cl (c22s (t := o.t) hok.toOkB g5) ?_
    rintro _ w6 ⟨rfl, g6⟩
    refine ⟨_, _, rfl, ?_⟩
    refine g6.ldI 1 rfl rfl ?_
    have g7 : Hs W (refP rb s (heads s) :: (tabP tb (tot (dropT s o.t)) (dropT s o.t) :: pt b4 (.cells o.r.c 59 (0, 0)) :: Z)) w6 := g6.perm (List.perm_middle (l₁ := [_, _]))
    refine cl (c41s (t := o.t) hok.toOkB g7) ?_
    rintro _ w8 ⟨rfl, g8⟩
    refine ⟨_, _, rfl, ?_⟩
    have e0 : ((look s.L o.t).isSome == (look s.L o.t).isSome) = true := by simp
    rw [e0]
    simp only [Bool.not_true, br_false]
    have e1 : ((0 : Int) != 0) = false := rfl
    rw [e1, br_false]
    refine fin hokp ea.symm (fun w' k1 k2 _g => ?_) ?_
    · simp only [rdB_mk]
      exact ⟨by first | rfl | trivial, k1, k2⟩
    · have g15 : Hs W ([refP rb (dropT s o.t) (heads (dropT s o.t)), tabP tb (tot (dropT s o.t)) (dropT s o.t), pt b4 (.cells o.r.c 59 (0, 0))] ++ Z) w8 := g8
      exact g15.perm (List.Perm.append_right Z (List.reverse_perm _).symm)
  have hn3 : o.k ≠ 3 := by simpa using hk3
  show br (o.k == 4) _ _
  rw [br_iff]
  refine ⟨fun hk => ?_, fun hk4 => ?_⟩
  · have hk' : o.k = 4 := by simpa using hk
    have ea : actS s o = moveS s o.t := by unfold actS; rw [if_neg hn1, if_neg hn2, if_neg hn3, if_pos hk']
    have hokp : OkR (moveS s o.t) n lim := ⟨hok.toOkL.move o.t, quiet_move hok.quiet o.t, hok.bys.move o.t⟩
    refine h5.drw fun w7 h7 => ⟨Sh.lone w7 b4 (.cells o.r.c 59 (0, 0)), Pres.lone (h7.at 0 rfl), ?_⟩
    simp only [add_mk]
    refine h7.ldI 0 rfl rfl ?_
    refine ldI_at (lone_at w7 b4 _) rfl ?_
    have g5 : Hs W (tabP tb (tot s) s :: (pt b4 (.cells o.r.c 59 (0, 0)) :: refP rb s (heads s) :: Z)) w7 := h7.perm (List.Perm.swap _ _ _)
    refine cl (c23s (cum := o.t) g5) ?_
    rintro _ w8 ⟨rfl, g8⟩
    refine ⟨_, rfl, Pres.lone (g8.at 1 rfl), ?_⟩
    have g9 : Hs W (refP rb s (heads s) :: (tabP tb (tot (moveS s o.t)) (moveS s o.t) :: pt b4 (.cells o.r.c 59 (0, 0)) :: Z)) w8 := g8.perm (List.perm_middle (l₁ := [_, _]))
    refine cl (c42s (cum := o.t) hoo.t hok.toOkB g9) ?_
    rintro _ w10 ⟨rfl, g10⟩
    refine ⟨_, rfl, ?_⟩
    have e1 : ((0 : Int) != 0) = false := rfl
    rw [e1, br_false]
    refine fin hokp ea.symm (fun w' k1 k2 _g => ?_) ?_
    · simp only [rdB_mk]
      exact ⟨by first | rfl | trivial, k1, k2⟩
    · have g15 : Hs W ([refP rb (moveS s o.t) (heads (moveS s o.t)), tabP tb (tot (moveS s o.t)) (moveS s o.t), pt b4 (.cells o.r.c 59 (0, 0))] ++ Z) w10 := g10
      exact g15.perm (List.Perm.append_right Z (List.reverse_perm _).symm)
  · have hn4 : o.k ≠ 4 := by simpa using hk4
    have ea : actS s o = s := by unfold actS; rw [if_neg hn1, if_neg hn2, if_neg hn3, if_neg hn4]
    refine fin hok ea.symm (fun w' k1 k2 _g => ?_) h5
    simp only [rdB_mk]
    exact ⟨by first | rfl | trivial, k1, k2⟩
end
end Go.Proofs.Ytaflmpbeonoilaa
namespace Go.Proofs.Ytaflmpbeonoilaa
open Go Go.Sh Go.RowKit
section
variable {W w : World} {L M Z : List HP} {rb tb n : Nat} {s : St} {lim : Int}
theorem OkR.new (h1 : 1 ≤ n ∧ n ≤ 1024) (h2 : 1 ≤ lim ∧ lim ≤ 1073741824) : OkR (newS n lim) n lim := ⟨OkL.new h1 h2, (fun r hr => by cases hr), ⟨(fun x hx => by cases hx), (fun m hm => by cases hm)⟩⟩
theorem c6_1 {K0 : World → Prop} {Kr : Value → World → Prop} {xa : Option Addr} {xc : Nat} {ops : List Ox} (hX : Rd W xa (ops.flatMap fun o => o.r.l)) (hOx : ∀ o ∈ ops, OxOk W o) (hl : ops.length ≤ 9223372036854775807) (hK : ∀ w', Same W w' → K0 w') :
    ∀ (i j k : Nat) (s : St) (w : World), j + i = ops.length → OkR s n lim → Hs W [tabP tb (tot s) s, refP rb s (heads s)] w → i < k →
      F6_1 K0 Kr k (.slice xa ops.length xc) (.pointer (some ⟨tb, 0, none⟩)) (.pointer (some ⟨rb, 0, none⟩)) (.int .i64 (j : Int)) w := by
  intro i
  induction i with
  | zero =>
    intro j k s w hj hok h hk
    obtain ⟨k, rfl⟩ : ∃ j, k = j + 1 := ⟨k - 1, by omega⟩
    show F6_1B _ _ _ _ _ _ _ _
    unfold F6_1B
    simp only [rdC_mk, rdI_mk, rdP_mk]
    rw [br_dec]
    exact ⟨fun hx => by exfalso; omega, fun _ => hK w h.old⟩
  | succ i ih =>
    intro j k s w hj hok h hk
    obtain ⟨k, rfl⟩ : ∃ j, k = j + 1 := ⟨k - 1, by omega⟩
    show F6_1B _ _ _ _ _ _ _ _
    unfold F6_1B
    simp only [rdC_mk, rdI_mk, rdP_mk]
    rw [br_dec]
    refine ⟨fun _ => ?_, fun hx => by exfalso; omega⟩
    obtain ⟨o, ho⟩ : ∃ o, ops[j]? = some o := ⟨ops[j]'(by omega), by simp⟩
    have hoo := hOx o (List.mem_of_getElem? ho)
    have hX1 := h.rd_old hX
    have hlen : (ops.flatMap fun o => o.r.l).length = ops.length * 17 := flat_length (f := fun o : Ox => o.r.l) (m := 17) (fun _ => rfl) _
    obtain ⟨xd, hxa⟩ := hX1.some (by rw [hlen]; omega)
    rw [hxa] at hX1 ⊢
    refine ixS_to rfl (by omega) ?_
    refine ldR58_of (hX1.atI (f := fun o : Ox => o.r.l) (m := 17) (i := j) (fun _ => rfl) ho) ?_
    refine cl (c21 hok hoo h) ?_
    rintro _ w2 ⟨rfl, hok2, h2⟩
    refine ⟨_, rfl, ?_⟩
    simp only [Bool.not_true, br_false]
    have e1 : IntKind.wrap .i64 ((j : Int) + 1) = ((j + 1 : Nat) : Int) := by rw [wrap_i64 (by omega) (by omega)]; omega
    rw [e1, ← hxa]
    exact ih (j + 1) k _ w2 (by omega) hok2 h2 (by omega)
theorem c6 {n1 n2 : Int} {xa : Option Addr} {xc : Nat} {ops : List Ox} (hX : Rd w xa (ops.flatMap fun o => o.r.l)) (hOx : ∀ o ∈ ops, OxOk w o) (hl : ops.length ≤ 9223372036854775807) : Calls Try.prog 6 #[.int .i64 n1, .int .i64 n2, .slice xa ops.length xc] w (rt fun v w' => v = .bool true ∧ Same w w') := by
  refine F6_ok ?_
  unfold F6
  simp only [rdC_mk, rdI_mk, rdP_mk, rdB_mk]
  by_cases hb : n1 < 1 ∨ 1024 < n1 ∨ n2 < 1 ∨ 1073741824 < n2
  · refine clr (c9_err hb w) ⟨_, _, rfl, ?_⟩
    refine clr (c20_err hb w) ⟨_, _, rfl, ?_⟩
    have e0 : ((1 : Int) != 1) = false := rfl
    simp only [e0, br_false, Option.isNone_none]
    have e1 : (!(true == true)) = false := rfl
    rw [e1, br_false]
    refine cl (c10 w) ?_
    rintro _ w6 ⟨rfl, s6⟩
    refine ⟨_, rfl, ?_⟩
    simp only [Bool.not_true, br_false]
    unfold F6_2
    simp only [rdC_mk, rdP_mk, Option.isNone_none, br_true]
    intro _
    simp only [rdB_mk]
    exact ⟨by first | rfl | trivial, s6⟩
  · obtain ⟨m, hm⟩ : ∃ m : Nat, n1 = (m : Int) := ⟨n1.toNat, by omega⟩
    subst hm
    have h1 : 1 ≤ m ∧ m ≤ 1024 := by omega
    have h2 : 1 ≤ n2 ∧ n2 ≤ 1073741824 := by omega
    refine cl (c9 h1 h2 (Hs.start w)) ?_
    rintro _ w2 ⟨tb, rfl, h3⟩
    refine ⟨_, _, rfl, ?_⟩
    refine cl (c20 h1 h2 h3) ?_
    rintro _ w4 ⟨rb, rfl, h4⟩
    refine ⟨_, _, rfl, ?_⟩
    have e0 : ((0 : Int) != 0) = false := rfl
    simp only [e0, br_false, Option.isNone_some]
    have e1 : (!(false == false)) = false := rfl
    rw [e1, br_false]
    refine cl (c10 w4) ?_
    rintro _ w6 ⟨rfl, s6⟩
    refine ⟨_, rfl, ?_⟩
    have h6 := h4.same s6
    simp only [Bool.not_true, br_false]
    unfold F6_2
    simp only [rdC_mk, rdP_mk, rdB_mk, Option.isNone_some, br_false]
    exact ⟨ops.length + 1, c6_1 (n := m) (lim := n2) hX hOx hl (fun w' hs _g => by intro _; exact ⟨by first | rfl | trivial, hs⟩) ops.length 0 _ (newS m n2) w6 (by omega) (OkR.new h1 h2) (h6.perm (List.Perm.swap _ _ _)) (by omega)⟩
end
end Go.Proofs.Ytaflmpbeonoilaa
namespace Go.Proofs.Ytaflmpbeonoilaa
open Go Go.Sh
open Go.ChangeShapes Go.WideShapes Go.ChangeAt Go.WideMaps Go.WideElems Go.RowKit
open Row

namespace Row6
theorem func6 : Try.prog.funcs[6]? = some Try.f6 := by kernel_rfl
theorem params6 : Try.f6.params.toList = [3, 3, 53] := by kernel_rfl
set_option maxRecDepth 100000 in
theorem lifted6 (os : Os) (started : os.Started) (H : Type) (enc : TypeId × Value → H) :
    ReturnsInHanded {} Try.checked os 6 .any (Rows.reasmRunsSpec.pre6 enc Try.prog Try.f6 Rows.reasmRunsRow.domain false) (Rows.reasmRunsSpec.post enc Try.prog Try.f6 false true false false) := by
  refine returnsInHanded_of_change (C := Try.checked) own started (by kernel_rfl) func6
    (ChangeSpec.witness6 (enc := enc) (C := Try.checked) false ⟨#[], #[.int .i64 0, .int .i64 0, .slice none 0 0], []⟩ 8 (by kernel_rfl) (by kernel_rfl) (by kernel_rfl) (by kernel_rfl)) ?_
  intro W base args ds gs before hval0 hW _ _
  have hval : ∀ (j : Nat) t v, Try.f6.params[j]? = some t → args[j]? = some v → Value.okWide Try.prog W .any base t v := hval0
  have hW' := hW
  obtain ⟨p, q, hA0, hV, rfl, hfz, hnd⟩ := hW
  have hA : DataW.TrodAll enc Try.prog W 0 (fun _ => true) true Try.f6.params.toList args.toList ds p := hA0
  rw [params6] at hA
  obtain ⟨v0, v1, v2, d0, d1, d2, p0, p1, p2, rfl, rfl, rfl, h0, h1, h2⟩ := trodAll_three hA
  obtain ⟨rfl, rfl⟩ := trodVars_none hV
  clear hA0 hval0
  have hlt0 : ∀ x ∈ p0, x.block < W.heap.size := fun x hx => by simpa using hW'.lt x (by simp [hx])
  have h0k := h0
  have hlt1 : ∀ x ∈ p1, x.block < W.heap.size := fun x hx => by simpa using hW'.lt x (by simp [hx])
  have h1k := h1
  have hlt2 : ∀ x ∈ p2, x.block < W.heap.size := fun x hx => by simpa using hW'.lt x (by simp [hx])
  have h2k := h2
  obtain ⟨n0, rfl, rfl, rfl, hn0⟩ := open_int Row.u3 (hval 0 3 v0 (by kernel_rfl) rfl) h0
  obtain ⟨n1, rfl, rfl, rfl, hn1⟩ := open_int Row.u3 (hval 1 3 v1 (by kernel_rfl) rfl) h1
  obtain ⟨a2, c2, os2, rfl, hl2, hr2, ok2⟩ := ops_in (hval 2 53 v2 (by kernel_rfl) rfl) h2
  have key := c6 (n1 := n0) (n2 := n1) (xc := c2) hr2 ok2 hl2
  refine key.mono fun e W' ⟨v, he, hv, hf⟩ => ?_
  subst he; subst hv
  have hbelow : Below W.heap.size W W' := hf.below (Nat.le_refl _) fun _ x => x.elim
  refine ⟨_, rfl, _, _, _, [], [] ++ ([] ++ (p2)), [], hW', ?_, ?_, rfl, hbelow.frame _, fun h => by cases h⟩
  · exact trodAll_mk1 (shut_bool u4 _)
  · exact trodAll_mk3 (Below.trod laidOut (by kernel_rfl) (of_decide_eq_true (by kernel_rfl)) h0k hbelow hlt0) (Below.trod laidOut (by kernel_rfl) (of_decide_eq_true (by kernel_rfl)) h1k hbelow hlt1) (Below.trod laidOut (by kernel_rfl) (of_decide_eq_true (by kernel_rfl)) h2k hbelow hlt2)
end Row6
theorem reasmRuns_holds : Rows.ReasmRunsSaid :=
  OpenClaim.holds_of_wide 6 Try.f6 rfl rfl rfl rfl rfl rfl rfl ⟨rfl, rfl, rfl, rfl, rfl⟩ rfl rfl rfl rfl rfl (by kernel_rfl) Row6.func6 (by kernel_rfl)
    (of_decide_eq_true (by kernel_rfl)) (by unfold Func.isWrapper; first | (rw [if_pos (by decide +kernel)]; kernel_rfl) | (rw [if_neg (by decide +kernel)]; exact ⟨rfl, rfl⟩))
    (fun os started H enc _ => Row6.lifted6 os started H enc)
#print axioms reasmRuns_holds
end Go.Proofs.Ytaflmpbeonoilaa
