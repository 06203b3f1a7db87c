/-
  A report has come.
-/
import Derived.Test.YtmliokbonkndaaaObM
namespace Go.Proofs.Ytmliokbonkndaaa
open Go Go.Sh
/-- what a report says -/
structure Rp where
  kind : Int
  tsn : Int
  G : List Gp
  NR : List Gp
def Rp.nr (r : Rp) : List Gp := if r.kind = 16 then r.NR else []
def repE (r : Rp) (cum : Int) (len : Nat) (now : Int) : Int :=
  if rightE r.kind r.tsn cum len [r.G, r.nr] = 172 then 172 else if now < 0 ∨ now > 1099511627776 then 1 else rightE r.kind r.tsn cum len [r.G, r.nr]
def Rp.n0 (r : Rp) (cum : Int) : Int := sd cum r.tsn
def Rp.told (r : Rp) (cum : Int) : Nat → Bool := toldF (r.n0 cum) r.nr r.G
def Rp.good (r : Rp) (cum : Int) : Nat → Bool := goodF (r.n0 cum) r.nr
def Rp.newly (r : Rp) (cum : Int) (l : List En) : Nat → Bool := newF (r.told cum) l
def Rp.ack (r : Rp) (cum now : Int) (l : List En) : Nat → R52 := ackOut now (r.newly cum l) l
def Rp.l1 (r : Rp) (cum : Int) (l : List En) : List En := turnL (r.told cum) (r.good cum) (r.newly cum l) l
def Rp.l2 (r : Rp) (cum now : Int) (l : List En) : List En := (r.l1 cum l).mapIdx (quickL (r.newly cum l) (r.ack cum now l) (r.l1 cum l))
def Rp.sums (r : Rp) (cum : Int) (l : List En) : Int × Int := tsum (r.told cum) (r.good cum) (r.newly cum l) l l.length
def Rp.paths (r : Rp) (cum now : Int) (l : List En) : Nat → R52 := (qS (r.newly cum l) (r.ack cum now l) (r.l1 cum l) 0).2
/-- the report's record, with its blocks in memory -/
structure RpOk (W : World) (L : List HP) (s : R30) (r : Rp) : Prop where
  kind : s.f0 = r.kind
  tsn : s.f2 = r.tsn
  t0 : 0 ≤ r.tsn ∧ r.tsn < 4294967296
  gl : s.f10n = r.G.length
  gr : RdL W L s.f10a (gapV r.G)
  nl : s.f11n = r.NR.length
  nr : RdL W L s.f11a (gapV r.NR)
  gok : gOk r.G ∧ r.G.length ≤ 140737488355328
  nok : gOk r.NR ∧ r.NR.length ≤ 140737488355328
theorem right_zero {kind tsn cum : Int} {len : Nat} {Gs : List (List Gp)} (h : rightE kind tsn cum len Gs = 0) (hl : len ≤ 1048576) : 0 ≤ sd cum tsn ∧ sd cum tsn ≤ (len : Int) := by
  unfold rightE at h
  split at h
  · omega
  · split at h
    · omega
    · split at h
      · omega
      · split at h
        · omega
        · rename_i h3 h4
          have h5 : ¬ sd (nxt cum len) tsn ≥ 0 := fun h => h4 (.inl h)
          unfold sd nxt at *
          split at h3 <;> split at h5 <;> split <;> omega
section
variable {W w : World} {L M : List HP} {bb : Nat} {n cum : Int} {a la : Option Addr} {c lc : Nat} {es : List (Nat × En)} {b m N : Nat} {e : En}
theorem box_cut {j : Nat} {a' : Option Addr} {c' : Nat} {cum' : Int} {w' : World} (hw : Hs W (pt bb (.cells #[.int .i64 n, .int .u32 cum', .slice a' (es.length - j) c'] 79 (0, 0)) :: slO 91 1 a' (es.length - j) c' ((ptrV es).drop (j * 1)) :: (es.map entP ++ L)) w') : Hs W (boxL bb n cum' a' c' (es.drop j) ++ L) w' := by
  have e1 : es.map entP = (es.take j).map entP ++ (es.drop j).map entP := by rw [← List.map_append, List.take_append_drop]
  rw [e1, List.append_assoc] at hw
  have h2 : Hs W ([pt bb (.cells #[.int .i64 n, .int .u32 cum', .slice a' (es.length - j) c'] 79 (0, 0)), slO 91 1 a' (es.length - j) c' ((ptrV es).drop (j * 1))] ++ ((es.take j).map entP ++ ((es.drop j).map entP ++ L))) w' := hw
  have h3 := Hs.dropL (Hs.flip.1 h2)
  refine h3.cast ?_
  unfold boxL ptrV
  simp [List.map_drop]
/-- a right report -/
def RepOk (W : World) (L : List HP) (bb : Nat) (n cum : Int) (N : Nat) (r : Rp) (now : Int) (l : List En) (s : R47) (w' : World) : Prop :=
  ∃ oa oc a' c' es', s = R47.mk oa N oc (r.sums cum l).1 (r.sums cum l).2 ∧ dats es' = (r.l2 cum now l).drop (r.n0 cum).toNat ∧
    Hs W (slP 53 4 oa N oc (aV N (r.paths cum now l)) :: (boxL bb n r.tsn a' c' es' ++ L)) w'
theorem c13_1 {s2 : R30} {r : Rp} {b4 b6 : Nat} {nra : Option Addr} {nrc : Nat} {now : Int} (hr : RpOk W L s2 r) (hm : es.length ≤ 1048576) (hN : n = (N : Int)) (hN8 : 0 < N ∧ N ≤ 8) (hpath : ∀ e ∈ dats es, 0 ≤ e.path ∧ e.path < n) (hnr : RdL W L nra (gapV r.nr)) (hnok : gOk r.nr ∧ r.nr.length ≤ 140737488355328)
    {Kr : Value → Value → World → Prop} {ee : Int} (hee : ee = rightE r.kind r.tsn cum es.length [r.G, r.nr])
    (h : Hs W (pt b6 (.cells R47.z.c 48 (0, 0)) :: pt b4 (.cells s2.c 31 (0, 0)) :: (boxL bb n cum a c es ++ L)) w)
    (hbad : ∀ w', ee ≠ 0 → Hs W (pt b6 (.cells R47.z.c 48 (0, 0)) :: (boxL bb n cum a c es ++ L)) w' → Kr (.pointer (some ⟨b6, 0, none⟩)) (.int .i64 ee) w')
    (hK : ∀ w' s, ee = 0 → RepOk W L bb n cum N r now (dats es) s w' → w'.heap[b6]? = some (.cells s.c 48 (0, 0)) → Kr (.pointer (some ⟨b6, 0, none⟩)) (.int .i64 0) w') :
    F13_1 Kr (.pointer (some ⟨bb, 0, none⟩)) (.int .i64 now) (.pointer (some ⟨b4, 0, none⟩)) (.pointer (some ⟨b6, 0, none⟩)) (.slice nra r.nr.length nrc) (.int .i64 ee) w := by
  unfold F13_1
  simp only [rdC_mk, rdI_mk, rdP_mk, rdA_mk, nn_some, add_mk]
  rw [br_iff]
  refine ⟨fun h0 => ?_, fun h0 => ?_⟩
  · have h0 : ee ≠ 0 := by simpa using h0
    refine h.stcL 0 rfl rfl fun w1 h1 => hbad w1 h0 ?_
    exact h1.erase 1
  have h0 : ee = 0 := by simpa using h0
  have hrange := right_zero (hee.symm.trans h0) hm
  refine ldR30_of (s := s2) (h.atL 1 rfl) ?_
  obtain ⟨Y, hY⟩ : ∃ Y, Y = [pt b6 (.cells R47.z.c 48 (0, 0)), pt b4 (.cells s2.c 31 (0, 0))] := ⟨_, rfl⟩
  have h1 : Hs W (boxL bb n cum a c es ++ (Y ++ L)) w := by rw [hY]; exact (Hs.flip (X := [_, _])).1 h
  refine cl (c33 (n0 := r.n0 cum) (by rw [hr.tsn]; rfl) hrange hm hr.gl (hr.gr.more (X := Y)) (hnr.more (X := Y)) hr.gok hnok h1) ?_
  rintro _ w1 ⟨ta, tc, ga, gc, na, nc, rfl, h2⟩
  refine exR95_of (R95.mk ta es.length tc ga es.length gc na es.length nc) ⟨rfl, ?_⟩
  refine h2.alc fun b12 w2 h3 => h3.stcL 0 rfl rfl fun w3 h4 => ?_
  refine ldR95_of (s := R95.mk ta es.length tc ga es.length gc na es.length nc) (h4.atL 0 rfl) ?_
  have h4 : Hs W ([pt b12 (.cells (R95.mk ta es.length tc ga es.length gc na es.length nc).c 96 (0, 0)), slP 4 1 ta es.length tc (bV es.length (r.told cum)), slP 4 1 ga es.length gc (bV es.length (r.good cum)), slP 4 1 na es.length nc (bV es.length (r.newly cum (dats es)))] ++ (boxL bb n cum a c es ++ (Y ++ L))) w3 := h4
  clear h2 h3 h1 h
  -- acked
  have h5 : Hs W (slP 4 1 na es.length nc (bV es.length (r.newly cum (dats es))) :: (boxL bb n cum a c es ++ ([pt b12 (.cells (R95.mk ta es.length tc ga es.length gc na es.length nc).c 96 (0, 0)), slP 4 1 ta es.length tc (bV es.length (r.told cum)), slP 4 1 ga es.length gc (bV es.length (r.good cum))] ++ (Y ++ L)))) w3 := by
    have h6 : Hs W ([slP 4 1 na es.length nc (bV es.length (r.newly cum (dats es)))] ++ ([pt b12 (.cells (R95.mk ta es.length tc ga es.length gc na es.length nc).c 96 (0, 0)), slP 4 1 ta es.length tc (bV es.length (r.told cum)), slP 4 1 ga es.length gc (bV es.length (r.good cum))] ++ (boxL bb n cum a c es ++ (Y ++ L)))) w3 := Hs.re (n := 4) h4 rfl (is := [3, 0, 1, 2]) (by decide)
    exact h6.perm (List.Perm.append_left [_] (List.perm_append_comm_assoc _ _ _))
  refine cl (c34 (nw := r.newly cum (dats es)) hN hN8 hm rfl rfl hpath now h5) ?_
  rintro _ w4 ⟨oa, oc, rfl, h6⟩
  refine ⟨_, _, _, rfl, ?_⟩
  refine h6.alc fun b19 w5 h7 => h7.stcL 0 rfl rfl fun w6 h8 => ?_
  obtain ⟨Z, hZ⟩ : ∃ Z, Z = pt b12 (.cells (R95.mk ta es.length tc ga es.length gc na es.length nc).c 96 (0, 0)) :: (Y ++ L) := ⟨_, rfl⟩
  have h8 : Hs W ([pt b19 (.cells (R47.mk oa N oc 0 0).c 48 (0, 0)), slP 53 4 oa N oc (aV N (r.ack cum now (dats es))), slP 4 1 na es.length nc (bV es.length (r.newly cum (dats es)))] ++ (boxL bb n cum a c es ++ ([pt b12 (.cells (R95.mk ta es.length tc ga es.length gc na es.length nc).c 96 (0, 0)), slP 4 1 ta es.length tc (bV es.length (r.told cum)), slP 4 1 ga es.length gc (bV es.length (r.good cum))] ++ (Y ++ L)))) w6 := h8
  have h9 : Hs W ([pt b19 (.cells (R47.mk oa N oc 0 0).c 48 (0, 0)), slP 4 1 ta es.length tc (bV es.length (r.told cum)), slP 4 1 ga es.length gc (bV es.length (r.good cum)), slP 4 1 na es.length nc (bV es.length (r.newly cum (dats es)))] ++ (boxL bb n cum a c es ++ (slP 53 4 oa N oc (aV N (r.ack cum now (dats es))) :: Z))) w6 := by
    have p : Hs W ([pt b19 (.cells (R47.mk oa N oc 0 0).c 48 (0, 0)), slP 53 4 oa N oc (aV N (r.ack cum now (dats es))), slP 4 1 na es.length nc (bV es.length (r.newly cum (dats es))), pt b12 (.cells (R95.mk ta es.length tc ga es.length gc na es.length nc).c 96 (0, 0)), slP 4 1 ta es.length tc (bV es.length (r.told cum)), slP 4 1 ga es.length gc (bV es.length (r.good cum))] ++ (boxL bb n cum a c es ++ (Y ++ L))) w6 :=
      h8.perm (List.Perm.append_left [_, _, _] (List.perm_append_comm_assoc _ _ _))
    have p2 : Hs W ([pt b19 (.cells (R47.mk oa N oc 0 0).c 48 (0, 0)), slP 4 1 ta es.length tc (bV es.length (r.told cum)), slP 4 1 ga es.length gc (bV es.length (r.good cum)), slP 4 1 na es.length nc (bV es.length (r.newly cum (dats es)))] ++ ([slP 53 4 oa N oc (aV N (r.ack cum now (dats es))), pt b12 (.cells (R95.mk ta es.length tc ga es.length gc na es.length nc).c 96 (0, 0))] ++ (boxL bb n cum a c es ++ (Y ++ L)))) w6 := Hs.re (n := 6) p rfl (is := [0, 4, 5, 2, 1, 3]) (by decide)
    rw [hZ]
    exact p2.perm (List.Perm.append_left [_, _, _, _] (List.perm_append_comm_assoc _ _ _))
  clear h4 h5 h6 h7 h8
  have hb12 : ∀ {X : List HP} {es' : List (Nat × En)} {w' : World}, X.length = 4 → Hs W (X ++ (boxL bb n cum a c es' ++ (slP 53 4 oa N oc (aV N (r.ack cum now (dats es))) :: Z))) w' → At w' ⟨b12, 0, none⟩ (R95.mk ta es.length tc ga es.length gc na es.length nc).l := by
    intro X es' w' _ h'
    rw [hZ] at h'
    have p : Hs W (pt b12 (.cells (R95.mk ta es.length tc ga es.length gc na es.length nc).c 96 (0, 0)) :: ((X ++ (boxL bb n cum a c es' ++ [slP 53 4 oa N oc (aV N (r.ack cum now (dats es)))])) ++ (Y ++ L))) w' := by
      refine Hs.ahead (L := X ++ (boxL bb n cum a c es' ++ [slP 53 4 oa N oc (aV N (r.ack cum now (dats es)))])) (h'.cast ?_)
      simp
    exact p.atL 0 rfl
  refine ldR95_of (s := R95.mk ta es.length tc ga es.length gc na es.length nc) (hb12 rfl h9) ?_
  -- turn
  refine cl (c35 (T0 := ⟨0, b19, oa, N, oc, ta, tc, ga, gc, na, nc⟩) hm h9) ?_
  rintro _ w7 ⟨rfl, es1, hd1, h10⟩
  refine ⟨rfl, ?_⟩
  have hl1 : es1.length = es.length := by
    have := congrArg List.length hd1
    simpa [dats, turnL] using this
  have h10 : Hs W ([pt b19 (.cells (R47.mk oa N oc (r.sums cum (dats es)).1 (r.sums cum (dats es)).2).c 48 (0, 0)), slP 4 1 ta es.length tc (bV es.length (r.told cum)), slP 4 1 ga es.length gc (bV es.length (r.good cum)), slP 4 1 na es.length nc (bV es.length (r.newly cum (dats es)))] ++ (boxL bb n cum a c es1 ++ (slP 53 4 oa N oc (aV N (r.ack cum now (dats es))) :: Z))) w7 := by
    unfold Rp.sums
    rw [show (dats es).length = es.length by simp [dats]]
    exact h10
  refine ldR95_of (s := R95.mk ta es.length tc ga es.length gc na es.length nc) (hb12 rfl h10) ?_
  have h11 : Hs W (pt b19 (.cells (R47.mk oa N oc (r.sums cum (dats es)).1 (r.sums cum (dats es)).2).c 48 (0, 0)) :: slP 53 4 oa N oc (aV N (r.ack cum now (dats es))) :: slP 4 1 na es1.length nc (bV es1.length (r.newly cum (dats es))) :: (boxL bb n cum a c es1 ++ ([slP 4 1 ta es.length tc (bV es.length (r.told cum)), slP 4 1 ga es.length gc (bV es.length (r.good cum))] ++ Z))) w7 := by
    rw [hl1]
    have p : Hs W ([pt b19 (.cells (R47.mk oa N oc (r.sums cum (dats es)).1 (r.sums cum (dats es)).2).c 48 (0, 0)), slP 4 1 ta es.length tc (bV es.length (r.told cum)), slP 4 1 ga es.length gc (bV es.length (r.good cum)), slP 4 1 na es.length nc (bV es.length (r.newly cum (dats es))), slP 53 4 oa N oc (aV N (r.ack cum now (dats es)))] ++ (boxL bb n cum a c es1 ++ Z)) w7 :=
      h10.perm (List.Perm.append_left [_, _, _, _] List.perm_middle)
    have p2 : Hs W ([pt b19 (.cells (R47.mk oa N oc (r.sums cum (dats es)).1 (r.sums cum (dats es)).2).c 48 (0, 0)), slP 53 4 oa N oc (aV N (r.ack cum now (dats es))), slP 4 1 na es.length nc (bV es.length (r.newly cum (dats es)))] ++ ([slP 4 1 ta es.length tc (bV es.length (r.told cum)), slP 4 1 ga es.length gc (bV es.length (r.good cum))] ++ (boxL bb n cum a c es1 ++ Z))) w7 := Hs.re (n := 5) p rfl (is := [0, 4, 3, 1, 2]) (by decide)
    exact p2.perm (List.Perm.append_left [_, _, _] (List.perm_append_comm_assoc _ _ _))
  have hpath1 : ∀ e ∈ dats es1, 0 ≤ e.path ∧ e.path < n := by
    intro e he
    rw [hd1] at he
    obtain ⟨i, hi⟩ := List.getElem?_of_mem he
    unfold turnL at hi
    rw [List.getElem?_mapIdx] at hi
    obtain ⟨e0, h1, h2⟩ := Option.map_eq_some_iff.1 hi
    have := hpath e0 (List.mem_of_getElem? h1)
    rw [← h2]
    unfold turnF
    simp only
    split <;> split <;> try split
    all_goals exact this
  have k36 := c36 (nw := r.newly cum (dats es)) (ta := ta) (tc := tc) (ga := ga) (gc := gc) (by rw [hl1]; exact hm) hN hN8 hpath1 h11
  rw [hl1] at k36
  refine cl k36 ?_
  rintro _ w8 ⟨rfl, es2, hd2, h12⟩
  refine ⟨rfl, ?_⟩
  rw [hd1] at hd2 h12
  have hd2 : dats es2 = r.l2 cum now (dats es) := hd2
  have hl2 : es2.length = es.length := by
    have := congrArg List.length hd2
    simpa [dats, Rp.l2, Rp.l1, turnL] using this
  have h13 : Hs W ([pt b19 (.cells (R47.mk oa N oc (r.sums cum (dats es)).1 (r.sums cum (dats es)).2).c 48 (0, 0)), slP 53 4 oa N oc (aV N (r.paths cum now (dats es))), slP 4 1 na es.length nc (bV es.length (r.newly cum (dats es)))] ++ ([slP 4 1 ta es.length tc (bV es.length (r.told cum)), slP 4 1 ga es.length gc (bV es.length (r.good cum)), pt b12 (.cells (R95.mk ta es.length tc ga es.length gc na es.length nc).c 96 (0, 0)), pt b6 (.cells R47.z.c 48 (0, 0)), pt b4 (.cells s2.c 31 (0, 0))] ++ (boxL bb n cum a c es2 ++ L))) w8 := by
    have h12 : Hs W ([pt b19 (.cells (R47.mk oa N oc (r.sums cum (dats es)).1 (r.sums cum (dats es)).2).c 48 (0, 0)), slP 53 4 oa N oc (aV N (r.paths cum now (dats es))), slP 4 1 na es.length nc (bV es.length (r.newly cum (dats es)))] ++ (boxL bb n cum a c es2 ++ ([slP 4 1 ta es.length tc (bV es.length (r.told cum)), slP 4 1 ga es.length gc (bV es.length (r.good cum))] ++ Z))) w8 := h12
    rw [hZ, hY] at h12
    exact h12.perm (List.Perm.append_left [_, _, _] (List.perm_append_comm_assoc _ [_, _, _, _, _] L))
  clear h9 h10 h11 h12 k36
  refine h13.drw fun w9 h14 => ⟨w9, Pres.refl _, ?_⟩
  refine h14.ldC 8 rfl rfl (h14.ldI 8 rfl rfl (h14.ldI 7 rfl rfl ?_))
  refine clr (s37 _ _ w9) ⟨_, rfl, Pres.refl _, ?_⟩
  obtain ⟨j, hj⟩ : ∃ j : Nat, r.n0 cum = (j : Int) := ⟨(r.n0 cum).toNat, by unfold Rp.n0; omega⟩
  have hj2 : sd cum s2.f2 = (j : Int) := by rw [hr.tsn]; exact hj
  rw [hj2]
  have hjl : j ≤ es2.length := by
    have : r.n0 cum ≤ (es.length : Int) := hrange.2
    omega
  refine slS_lo hjl ?_
  have h15 := h14.cutO 9 rfl hjl
  refine h15.stc 8 rfl (by simp) fun w10 h16 => h16.ldI 7 rfl rfl (h16.stc 8 rfl (by simp) fun w11 h17 => ?_)
  refine ldR47_of (s := R47.mk oa N oc (r.sums cum (dats es)).1 (r.sums cum (dats es)).2) (h17.atL 0 rfl) ?_
  refine h17.stcL 6 rfl rfl fun w12 h18 => ?_
  refine hK w12 (R47.mk oa N oc (r.sums cum (dats es)).1 (r.sums cum (dats es)).2) h0 ?_ (h18.at 6 rfl)
  have h19 : Hs W (slP 53 4 oa N oc (aV N (r.paths cum now (dats es))) :: (pt bb (.cells #[.int .i64 n, .int .u32 s2.f2, .slice (if c = j then a else a.map (·.add (j * 1))) (es2.length - j) (c - j)] 79 (0, 0)) :: slO 91 1 (if c = j then a else a.map (·.add (j * 1))) (es2.length - j) (c - j) ((ptrV es2).drop (j * 1)) :: (es2.map entP ++ L))) w12 := ((((((h18.erase 7).erase 6).erase 5).erase 4).erase 3).erase 2).erase 0
  have h20 : Hs W ([pt bb (.cells #[.int .i64 n, .int .u32 s2.f2, .slice (if c = j then a else a.map (·.add (j * 1))) (es2.length - j) (c - j)] 79 (0, 0)), slO 91 1 (if c = j then a else a.map (·.add (j * 1))) (es2.length - j) (c - j) ((ptrV es2).drop (j * 1))] ++ (es2.map entP ++ ([slP 53 4 oa N oc (aV N (r.paths cum now (dats es)))] ++ L))) w12 := by
    have : Hs W ([slP 53 4 oa N oc (aV N (r.paths cum now (dats es)))] ++ (([pt bb (.cells #[.int .i64 n, .int .u32 s2.f2, .slice (if c = j then a else a.map (·.add (j * 1))) (es2.length - j) (c - j)] 79 (0, 0)), slO 91 1 (if c = j then a else a.map (·.add (j * 1))) (es2.length - j) (c - j) ((ptrV es2).drop (j * 1))] ++ es2.map entP) ++ L)) w12 := h19
    exact (Hs.flip.1 this).cast (by simp)
  have h21 := box_cut (j := j) h20
  refine ⟨oa, oc, _, _, es2.drop j, rfl, ?_, (Hs.flip (Y := [_])).1 (by rw [hr.tsn] at h21; exact h21)⟩
  rw [hj, Int.toNat_natCast, ← hd2]
  unfold dats
  rw [List.map_drop]
def RepP (W : World) (L : List HP) (bb : Nat) (n cum : Int) (N : Nat) (a : Option Addr) (c : Nat) (es : List (Nat × En)) (r : Rp) (now : Int) (v : Value) (w' : World) : Prop :=
  (repE r cum es.length now ≠ 0 ∧ v = .tuple #[R47.z.v, .int .i64 (repE r cum es.length now)] ∧ Hs W (boxL bb n cum a c es ++ L) w') ∨
  (repE r cum es.length now = 0 ∧ ∃ s, v = .tuple #[s.v, .int .i64 0] ∧ RepOk W L bb n cum N r now (dats es) s w')
theorem c13_2 {s2 : R30} {r : Rp} {b4 b6 : Nat} {nra : Option Addr} {nrc : Nat} {now : Int} (hr : RpOk W L s2 r) (hm : es.length ≤ 1048576) (hN : n = (N : Int)) (hN8 : 0 < N ∧ N ≤ 8) (hcum : 0 ≤ cum ∧ cum < 4294967296) (hpath : ∀ e ∈ dats es, 0 ≤ e.path ∧ e.path < n) (hnr : RdL W L nra (gapV r.nr)) (hnok : gOk r.nr ∧ r.nr.length ≤ 140737488355328)
    {K : Value → World → Prop} (h : Hs W (pt b6 (.cells R47.z.c 48 (0, 0)) :: pt b4 (.cells s2.c 31 (0, 0)) :: (boxL bb n cum a c es ++ L)) w)
    (hK : ∀ v w', RepP W L bb n cum N a c es r now v w' → K v w') :
    F13_2 (fun y6 y7 w16 => ∀ _g : Tm, rdA y6 fun a18 => rdI .i64 y7 fun n19 => ldR47 a18 w16 fun s20 => K (.tuple #[s20.v, .int .i64 n19]) w16) (.pointer (some ⟨bb, 0, none⟩)) (.int .i64 now) (.pointer (some ⟨b4, 0, none⟩)) (.pointer (some ⟨b6, 0, none⟩)) (.slice nra r.nr.length nrc) w := by
  unfold F13_2
  simp only [rdC_mk, rdI_mk, rdP_mk, rdA_mk, add_mk]
  refine ldR30_of (s := s2) (h.atL 1 rfl) (h.ldC 1 rfl rfl ?_)
  refine h.alc fun b8 w1 h1 => ?_
  have hb1 : RB w1 bb n cum es := box_rbX (X := [_, _, _]) h1
  have hgl : GL w1 (some ⟨b8, 0, none⟩) [(s2.f10a, s2.f10c), (nra, nrc)] [r.G, r.nr] := by
    refine ⟨rfl, fun j u hj => ⟨_, rfl, ?_⟩, fun j x G' hx hG' => ?_, fun G' hG' => ?_, by simp⟩
    · rw [add_mk, Nat.zero_add, cell_at (h1.at 0 rfl), hr.gl]
      simpa using hj
    · match j, hx, hG' with
      | 0, hx, hG' => simp at hx hG'; subst hx; subst hG'; exact hr.gr _ (Hs.dropL h1.drop.drop.drop)
      | 1, hx, hG' => simp at hx hG'; subst hx; subst hG'; exact hnr _ (Hs.dropL h1.drop.drop.drop)
      | j + 2, hx, _ => simp at hx
    · rcases List.mem_cons.1 hG' with rfl | hG'
      · exact hr.gok
      · rcases List.mem_cons.1 hG' with rfl | hG'
        · exact hnok
        · cases hG'
  have k32 := c32 (lc := 2) hb1 (by omega) hcum s2 (by rw [hr.tsn]; exact hr.t0) hgl
  rw [hr.kind, hr.tsn] at k32
  refine cl k32 ?_
  rintro _ w2 ⟨rfl, s2'⟩
  refine ⟨_, rfl, ?_⟩
  have h2 := (h1.same s2').drop
  obtain ⟨ee, hee⟩ : ∃ ee, ee = rightE r.kind r.tsn cum es.length [r.G, r.nr] := ⟨_, rfl⟩
  have hrep : repE r cum es.length now = if ee = 172 then 172 else if now < 0 ∨ now > 1099511627776 then 1 else ee := by rw [hee]; rfl
  rw [← hee]
  have bad : ∀ w' x, repE r cum es.length now = x → x ≠ 0 → Hs W (pt b6 (.cells R47.z.c 48 (0, 0)) :: (boxL bb n cum a c es ++ L)) w' → ldR47 ⟨b6, 0, none⟩ w' fun s20 => K (.tuple #[s20.v, .int .i64 x]) w' := by
    intro w' x hx h0 h'
    refine ldR47_of (s := R47.z) (h'.atL 0 rfl) (hK _ _ (.inl ⟨by rw [hx]; exact h0, by rw [hx], h'.drop⟩))
  rw [br_iff]
  refine ⟨fun h172 => ?_, fun h172 => ?_⟩
  · have h172 : ee = 172 := by simpa using h172
    refine h2.stcL 0 rfl rfl fun w3 h3 => ?_
    intro _g
    exact bad w3 _ (by rw [hrep, if_pos h172, h172]) (by omega) (h3.erase 1)
  have h172 : ee ≠ 172 := by simpa using h172
  rw [br_dec]
  refine ⟨fun hn => ?_, fun hn => ?_⟩
  · refine h2.stcL 0 rfl rfl fun w3 h3 => ?_
    intro _g
    exact bad w3 _ (by rw [hrep, if_neg h172, if_pos (.inl hn)]) (by omega) (h3.erase 1)
  rw [br_dec]
  refine ⟨fun hn2 => ?_, fun hn2 => ?_⟩
  · refine h2.stcL 0 rfl rfl fun w3 h3 => ?_
    intro _g
    exact bad w3 _ (by rw [hrep, if_neg h172, if_pos (.inr hn2)]) (by omega) (h3.erase 1)
  have hrep : repE r cum es.length now = ee := by rw [hrep, if_neg h172, if_neg (by omega)]
  refine c13_1 hr hm hN hN8 hpath hnr hnok hee h2 (fun w' h0 h' _g => ?_) fun w' s h0 hs hb _g => ?_
  · simp only [rdA_mk, rdI_mk]
    intro _g
    exact bad w' _ hrep h0 h'
  · simp only [rdA_mk, rdI_mk]
    intro _g
    exact ldR47_of (s := s) (At.blk hb) (hK _ _ (.inr ⟨by rw [hrep, h0], s, rfl, hs⟩))
theorem c13 {s2 : R30} {r : Rp} {now : Int} (hr : RpOk W L s2 r) (hm : es.length ≤ 1048576) (hN : n = (N : Int)) (hN8 : 0 < N ∧ N ≤ 8) (hcum : 0 ≤ cum ∧ cum < 4294967296) (hpath : ∀ e ∈ dats es, 0 ≤ e.path ∧ e.path < n)
    (h : Hs W (boxL bb n cum a c es ++ L) w) :
    Calls Try.prog 13 #[.pointer (some ⟨bb, 0, none⟩), s2.v, .int .i64 now] w (rt (RepP W L bb n cum N a c es r now)) := by
  refine F13_ok ?_
  unfold F13
  simp only [rdP_mk, rdI_mk]
  refine exR30_of s2 ⟨rfl, ?_⟩
  refine h.alc fun b4 w1 h1 => h1.alc fun b6 w2 h2 => ?_
  refine clr (c31 (box_rbX (X := [_, _]) h2) (by omega)) ⟨_, rfl, ?_⟩
  rw [Bool.not_true, br_false]
  simp only [add_mk]
  refine h2.ldI 1 rfl rfl ?_
  rw [br_iff]
  refine ⟨fun hk => ?_, fun hk => ?_⟩
  · have hk : s2.f0 = 16 := by simpa using hk
    have hnr : r.nr = r.NR := by unfold Rp.nr; rw [if_pos (by rw [← hr.kind]; exact hk)]
    refine h2.ldC 1 rfl rfl ?_
    have e1 : s2.f11n = r.nr.length := by rw [hnr]; exact hr.nl
    rw [e1]
    exact c13_2 hr hm hN hN8 hcum hpath (by rw [hnr]; exact hr.nr) (by rw [hnr]; exact hr.nok) h2 fun _ _ k => k
  · have hk : s2.f0 ≠ 16 := by simpa using hk
    have hnr : r.nr = [] := by unfold Rp.nr; rw [if_neg (by rw [← hr.kind]; exact hk)]
    have := c13_2 (nra := none) (nrc := 0) (r := r) hr hm hN hN8 hcum hpath (by rw [hnr]; exact fun _ _ => Rd.nil _ _) (by rw [hnr]; exact ⟨by simp [gOk], by simp⟩) h2 (now := now) (K := RepP W L bb n cum N a c es r now) fun _ _ k => k
    rw [hnr] at this
    exact this
end
end Go.Proofs.Ytmliokbonkndaaa
