/-
  A report that comes once more tells of nothing new (OutboxAgain).
-/
import Derived.Test.YtmliokbonkndaaaRqU
import Derived.Test.YtmliokbonkndaaaObOps
namespace Go.Proofs.Ytmliokbonkndaaa
open Go Go.Sh
theorem Hs.over {W w w' : World} {L M : List HP} (h : Hs W L w) (h2 : Hs w M w') : Hs W (M ++ L) w' := by
  obtain ⟨s, x, hx, a, b⟩ := h2
  exact Hs.cons_bigS.1 (h.new s hx a b)
theorem out_rd {W w : World} {L : List HP} {a : Option Addr} {c : Nat} {ds : List (En × Option Addr × Nat)} (h : Hs W (outL a c ds ++ L) w) : Rd w a (ds.flatMap recV) ∧ ∀ d ∈ ds, Rd w d.2.1 (byV d.1.data) := by
  refine ⟨h.rd 0 rfl, fun d hd => ?_⟩
  have : slP 5 1 d.2.1 d.1.data.length d.2.2 (byV d.1.data) ∈ outL a c ds ++ L := by
    refine List.mem_append.2 (.inl ?_)
    unfold outL
    exact List.mem_cons_of_mem _ (List.mem_map.2 ⟨d, hd, rfl⟩)
  exact h.rdm this
section
variable {W w : World} {L M : List HP} {bb rb N : Nat} {x : St} {o : Opx} {os : List Opx} {sa oa : Option Addr} {sc oc b7 b11 : Nat} {s : R30} {at_ now : Int} {ds : List (En × Option Addr × Nat)} {cum : Int} {a : Option Addr} {c : Nat} {es : List (Nat × En)} {qa : Option Addr} {qc : Nat} {F : Nat → R52}
theorem c6_1 {K2 : Value → Value → World → Prop} {Kr : Value → World → Prop} (hF : ∀ p, F p = ak0) (hN8 : N ≤ 8) {p2 : Option Addr} {ln : Nat}
    (hK : ∀ w', Same w w' → K2 (.pointer p2) (.slice oa ln oc) w') {q : Option Addr} (hb : w.heap[b11]? = some (.cells (R47.mk q N qc 0 0).c 48 (0, 0))) (hq : Rd w q (aV N F)) :
    ∀ (i j : Nat) (w' : World) (k : Nat), j + i = N → Same w w' → i < k → F6_1 K2 Kr k (.int .i64 (N : Int)) (.pointer p2) (.slice oa ln oc) (.pointer (some ⟨b11, 0, none⟩)) (.int .i64 (j : Int)) w' := by
  intro i
  induction i with
  | zero =>
    intro j w' k hj h hk
    obtain ⟨k, rfl⟩ : ∃ j, k = j + 1 := ⟨k - 1, by omega⟩
    show F6_1B _ _ _ _ _ _ _ _ _
    unfold F6_1B
    simp only [rdI_mk, rdC_mk, rdP_mk, rdA_mk]
    rw [br_dec]
    exact ⟨fun h1 => by exfalso; omega, fun _ => hK w' h⟩
  | succ i ih =>
    intro j w' k hj h hk
    obtain ⟨k, rfl⟩ : ∃ j, k = j + 1 := ⟨k - 1, by omega⟩
    show F6_1B _ _ _ _ _ _ _ _ _
    unfold F6_1B
    simp only [rdI_mk, rdC_mk, rdP_mk, rdA_mk, add_mk]
    rw [br_dec]
    refine ⟨fun _ => ?_, fun h1 => by exfalso; omega⟩
    have hb' := h.blk hb fun x => x
    refine ldC_at hb' rfl ?_
    have hr : Rd w' q (aV N F) := hq.fr h fun _ _ x => x
    obtain ⟨od, hod⟩ := hr.some (by rw [aV_length]; omega)
    rw [hod] at hr ⊢
    refine ixS_to (p := j) rfl (show j < N by omega) ?_
    refine ldR52_of (s := F j) (fun q v hq => ?_) ?_
    · rw [add_add]
      exact hr.at (aV_at (by omega) hq)
    rw [hF]
    have key := neq_flat (P := Try.prog) (w := w') (t := 53) (x := .tmp 136) (y := .tmp 137) (vs := ak0.l) (us := ak0.l) t53 (mR52 _) (mR52 _)
    rw [ak_ne] at key
    refine ⟨false, w', key, ?_⟩
    rw [br_false]
    have e1 : IntKind.wrap .i64 ((j : Int) + 1) = ((j + 1 : Nat) : Int) := by rw [wrap_i64 (by omega) (by omega)]; omega
    rw [e1]
    exact ih (j + 1) w' k (by omega) h (by omega)
theorem c6_3 {Kr : Value → World → Prop} {r : Rp} (hN8 : 0 < N ∧ N ≤ 8) (hr : ChOk W s r) (ho : OkB N r.tsn (dats es)) (h0 : repE r r.tsn (dats es).length now = 0) (h1 : r.sums r.tsn (dats es) = (0, 0)) (h2 : ∀ p, r.paths r.tsn now (dats es) p = ak0) (h3 : (r.l2 r.tsn now (dats es)).drop (r.n0 r.tsn).toNat = dats es)
    (hds : ds.map (·.1) = dats es) (h : Hs W (outL oa oc ds ++ (boxL bb N r.tsn a c es ++ (L ++ [pt b7 (.cells s.c 31 (0, 0))]))) w) (hK : ∀ w', Same W w' → Kr (.bool true) w') :
    F6_3 Kr (.int .i64 (N : Int)) (.int .i64 now) (.pointer (some ⟨b7, 0, none⟩)) (.pointer (some ⟨bb, 0, none⟩)) (.slice oa (dats es).length oc) w := by
  unfold F6_3
  simp only [rdI_mk, rdC_mk, rdP_mk, rdA_mk, add_mk]
  have hl := ho.len
  have hlen : (dats es).length = es.length := by simp [dats]
  have hld : (dats es).length = ds.length := by rw [← hds, List.length_map]
  have g0 : Hs W ([pt b7 (.cells s.c 31 (0, 0))] ++ (outL oa oc ds ++ (boxL bb N r.tsn a c es ++ L))) w := h.perm (by
    rw [← List.append_assoc, ← List.append_assoc, List.append_assoc _ L]
    rw [← List.append_assoc, ← List.append_assoc]
    exact List.perm_append_comm.trans (by simp))
  refine ldR30_of (s := s) (g0.atL 0 rfl) ?_
  have g1 := Hs.flip.1 h
  have hro : RpOk W (outL oa oc ds ++ (L ++ [pt b7 (.cells s.c 31 (0, 0))])) s r := ⟨hr.kind, hr.tsn, hr.t0, hr.gl, RdL.old hr.gr, hr.nl, RdL.old hr.nr, hr.gok, hr.nok⟩
  refine cl (c13 (N := N) hro (by omega) rfl hN8 ho.cum ho.path g1 (now := now)) ?_
  rintro v w1 hq
  unfold RepP at hq
  rw [← hlen] at hq
  rcases hq with ⟨p0, _⟩ | ⟨_, s', rfl, qa, qc, a3, k3, es1, rfl, hd, h4⟩
  · exact absurd h0 p0
  have hd : dats es1 = dats es := hd.trans h3
  rw [h1] at *
  refine exR47_of (R47.mk qa N qc 0 0) ⟨_, rfl, ?_⟩
  refine h4.alc fun b11 w2 g2 => g2.stcL 0 rfl rfl fun w3 g3 => ?_
  have g3 : Hs W (pt b11 (.cells (R47.mk qa N qc 0 0).c 48 (0, 0)) :: slP 53 4 qa N qc (aV N (r.paths r.tsn now (dats es))) :: (boxL bb N r.tsn a3 k3 es1 ++ (outL oa oc ds ++ (L ++ [pt b7 (.cells s.c 31 (0, 0))])))) w3 := g3
  rw [show ((0 : Int) != 0) = false from rfl, br_false]
  refine g3.ldI 0 rfl rfl ?_
  rw [show ((0 : Int) != 0) = false from rfl, br_false]
  refine g3.ldI 0 rfl rfl ?_
  rw [show ((0 : Int) != 0) = false from rfl, br_false]
  refine g3.ldC 0 rfl rfl ?_
  have eN : ((N : Int) != (N : Int)) = false := by simp
  show br (((N : Nat) : Int) != (N : Int)) _ _
  rw [eN, br_false]
  unfold F6_2
  simp only [rdI_mk, rdC_mk, rdP_mk, rdA_mk]
  refine ⟨N + 1, c6_1 (N := N) (qc := qc) h2 hN8.2 (fun w4 s4 => ?_) (g3.at 0 rfl) (g3.rd 1 rfl) N 0 w3 _ (Nat.zero_add _) (Fr.refl _) (by omega)⟩
  intro _g
  simp only [rdC_mk, rdP_mk]
  have g4 := g3.same s4
  have hd1 : ∀ e ∈ dats es1, e.data.length ≤ 70000 := by rw [hd]; exact ho.size
  have hlen1 : (dats es1).length = es1.length := by simp [dats]
  refine cl (c15 (box_rbX (X := [_, _]) g4) (by omega) (by rw [← hlen1, hd]; omega) hd1) ?_
  rintro _ w5 ⟨oa2, oc2, ds2, rfl, hds2, ho2⟩
  refine ⟨_, _, _, rfl, ?_⟩
  have g5 : Hs W (outL oa2 oc2 ds2 ++ _) w5 := Hs.over g4 ho2
  have g6 : Hs W (outL oa oc ds ++ (L ++ [pt b7 (.cells s.c 31 (0, 0))])) w4 := Hs.dropL (X := boxL bb N r.tsn a3 k3 es1) g4.drop.drop
  have g7 := g6.same ho2.old
  obtain ⟨m1, m2⟩ := out_rd g7
  obtain ⟨m3, m4⟩ := out_rd g5
  have hl2 : (dats es1).length = ds2.length := by rw [← hds2, List.length_map]
  have hfe : fsts ds = fsts ds2 := by unfold fsts; rw [hds, hds2, hd]
  have hby : ∀ e ∈ fsts ds2, byOk e := by unfold fsts; rw [hds2, hd]; exact ho.byt
  rw [hl2, hld]
  refine cl (c22 m1 m2 m3 m4 hfe hby (by rw [← hl2, hd]; omega)) ?_
  rintro _ w6 ⟨rfl, s6⟩
  refine ⟨_, rfl, ?_⟩
  rw [br_true]
  refine cl (c14 w6) ?_
  rintro _ w7 ⟨rfl, s7⟩
  refine ⟨_, rfl, ?_⟩
  simp only [rdB_mk]
  exact fun _ => hK w7 ((g5.old.trans s6 fun _ _ x => x).trans s7 fun _ _ x => x)
theorem c6_5 {K0 : Value → Value → Value → Value → Value → World → Prop} (hr : Rd W sa (os.flatMap opV)) (hok : ∀ o ∈ os, OpxOk W o) (hN8 : 0 < N ∧ N ≤ 8) {n1 : Int} {p9 : Addr}
    (hK : ∀ w' y, BY W [] L bb rb N y w' → OkB N y.1 y.2 → K0 (.int .i64 n1) (.int .u32 at_) (.int .i64 now) (.pointer (some p9)) (.pointer (some ⟨bb, 0, none⟩)) w') :
    ∀ (i j : Nat) (w : World) (k : Nat) (x : St), j + i = 120 → OkB N x.1 x.2 → BY W [] L bb rb N x w → i < k →
      F6_5 K0 k (.int .i64 n1) (.slice sa os.length sc) (.int .u32 at_) (.int .i64 now) (.pointer (some p9)) (.pointer (some ⟨bb, 0, none⟩)) (.pointer (some ⟨rb, 0, none⟩)) (.int .i64 (j : Int)) w := by
  intro i
  induction i with
  | zero =>
    intro j w k x hj ho h hk
    obtain ⟨k, rfl⟩ : ∃ j, k = j + 1 := ⟨k - 1, by omega⟩
    show F6_5B _ _ _ _ _ _ _ _ _ _ _
    unfold F6_5B
    simp only [rdP_mk, rdI_mk, rdC_mk, rdA_mk, br_dec]
    exact ⟨fun _ => ⟨fun h => by exfalso; omega, fun _ => hK w x h ho⟩, fun _ => hK w x h ho⟩
  | succ i ih =>
    intro j w k x hj ho h hk
    obtain ⟨k, rfl⟩ : ∃ j, k = j + 1 := ⟨k - 1, by omega⟩
    show F6_5B _ _ _ _ _ _ _ _ _ _ _
    unfold F6_5B
    simp only [rdP_mk, rdI_mk, rdC_mk, rdA_mk, br_dec]
    refine ⟨fun hl => ⟨fun _ => ?_, fun _ => hK w x h ho⟩, fun _ => hK w x h ho⟩
    obtain ⟨o, hjo⟩ : ∃ o, os[j]? = some o := ⟨os[j]'(by omega), by simp⟩
    unfold F6_4
    simp only [rdP_mk, rdI_mk, rdC_mk, rdA_mk]
    have e1 : IntKind.wrap .i64 ((j : Int) + 1) = ((j + 1 : Nat) : Int) := by rw [wrap_i64 (by omega) (by omega)]; omega
    refine step_act hr hok hN8 ho hjo h fun s w1 _ h1 => ?_
    rw [e1]
    exact fun _ => ih (j + 1) w1 k _ (by omega) (act_ok ho (hok o (List.mem_of_getElem? hjo))) h1 (by omega)
theorem c6_6 {Kr : Value → World → Prop} {r0 : Rp} (hr : Rd W sa (os.flatMap opV)) (hok : ∀ o ∈ os, OpxOk W o) (hN8 : 0 < N ∧ N ≤ 8) (hch : ChOk W s r0) (hat : 0 ≤ at_ ∧ at_ < 4294967296) (ho : OkB N x.1 x.2) (h : BY W [] [pt b7 (.cells s.c 31 (0, 0))] bb rb N x w) (hK : ∀ w', Same W w' → Kr (.bool true) w') :
    F6_6 Kr (.int .i64 (N : Int)) (.slice sa os.length sc) (.int .u32 at_) (.int .i64 now) (.pointer (some ⟨b7, 0, none⟩)) (.pointer (some ⟨bb, 0, none⟩)) (.pointer (some ⟨rb, 0, none⟩)) w := by
  unfold F6_6
  simp only [rdP_mk, rdI_mk, rdC_mk, rdA_mk]
  refine ⟨121, c6_5 hr hok hN8 (fun w1 y h1 ho1 => ?_) 120 0 w _ x rfl ho h (by omega)⟩
  intro _g
  simp only [rdP_mk, rdI_mk, rdC_mk, rdA_mk, add_mk]
  obtain ⟨a, c, es, a', c', dd, e1, e2, h2⟩ := h1
  have h2 : Hs W (boxL bb N y.1 a c es ++ (refL rb N y.1 a' c' dd ++ [pt b7 (.cells s.c 31 (0, 0))])) w1 := h2
  refine clr (c12 (box_rb h2) (by omega)) ⟨_, rfl, ?_⟩
  refine clr (s21 y.1 at_ w1 ho1.cum.1 ho1.cum.2 hat.1 hat.2) ⟨_, rfl, ?_⟩
  have h3 : Hs W (pt b7 (.cells s.c 31 (0, 0)) :: (boxL bb N y.1 a c es ++ refL rb N y.1 a' c' dd)) w1 := h2.perm (by rw [← List.append_assoc]; exact List.perm_append_comm)
  obtain ⟨r, hrd⟩ : ∃ r : Rp, r = { r0 with tsn := (y.1 + at_) % 4294967296 } := ⟨_, rfl⟩
  obtain ⟨t, ht⟩ : ∃ t : R30, t = { s with f2 := (y.1 + at_) % 4294967296 } := ⟨_, rfl⟩
  refine h3.stc 0 rfl (by simp [R30.c]) fun w2 h4 => ?_
  have h4 : Hs W (pt b7 (.cells t.c 31 (0, 0)) :: (boxL bb N y.1 a c es ++ refL rb N y.1 a' c' dd)) w2 := by rw [ht]; exact h4
  refine ldR30_of (s := t) (h4.atL 0 rfl) ?_
  have h5 : Hs W (boxL bb N y.1 a c es ++ (refL rb N y.1 a' c' dd ++ [pt b7 (.cells t.c 31 (0, 0))])) w2 := h4.perm (by rw [← List.append_assoc]; exact List.perm_append_comm (l₁ := [_]))
  have hr0 : 0 ≤ r.tsn ∧ r.tsn < 4294967296 := by rw [hrd]; show 0 ≤ (y.1 + at_) % 4294967296 ∧ (y.1 + at_) % 4294967296 < 4294967296; omega
  have hch2 : ChOk W t r := by
    rw [hrd] at hr0
    rw [ht, hrd]
    exact ⟨hch.kind, rfl, hr0, hch.gl, hch.gr, hch.nl, hch.nr, hch.gok, hch.nok⟩
  have hro : RpOk W (refL rb N y.1 a' c' dd ++ [pt b7 (.cells t.c 31 (0, 0))]) t r := ⟨hch2.kind, hch2.tsn, hch2.t0, hch2.gl, RdL.old hch2.gr, hch2.nl, RdL.old hch2.nr, hch2.gok, hch2.nok⟩
  have hl := ho1.len
  have hes : es.length = y.2.length := by rw [← e1]; simp [dats]
  have hp1 : ∀ e ∈ dats es, 0 ≤ e.path ∧ e.path < (N : Int) := by rw [e1]; exact ho1.path
  refine cl (c13 (N := N) hro (by omega) rfl hN8 ho1.cum hp1 h5 (now := now)) ?_
  rintro v w3 hq
  unfold RepP at hq
  rw [hes, e1] at hq
  rcases hq with ⟨p0, rfl, h6⟩ | ⟨p0, s', rfl, oa, oc, a3, k3, es1, rfl, hd, h6⟩
  · refine exR47_of R47.z ⟨_, rfl, ?_⟩
    refine h6.alc fun b28 w4 h7 => h7.stcL 0 rfl rfl fun w5 h8 => ?_
    rw [br_iff]
    refine ⟨fun _ => ?_, fun hf => ?_⟩
    · refine cl (c14 w5) ?_
      rintro _ w6 ⟨rfl, s6⟩
      exact ⟨_, rfl, hK w6 (h8.old.trans s6 fun _ _ x => x)⟩
    · exfalso
      simp at hf
      exact p0 hf
  · refine exR47_of (R47.mk oa N oc (r.sums y.1 y.2).1 (r.sums y.1 y.2).2) ⟨_, rfl, ?_⟩
    refine h6.alc fun b28 w4 h7 => h7.stcL 0 rfl rfl fun w5 h8 => ?_
    have h9 : Hs W (boxL bb N r.tsn a3 k3 es1 ++ (refL rb N y.1 a' c' dd ++ [pt b7 (.cells t.c 31 (0, 0))])) w5 := h8.drop.drop
    clear h8 h7 h6
    rw [show ((0 : Int) != 0) = false from rfl, br_false]
    have hokn : OkB N r.tsn (dats es1) := by
      rw [hd]
      obtain ⟨z0, z1⟩ := repE_range p0 hl
      exact ho1.report hr0 z0 z1 now
    have hlen : (dats es1).length = es1.length := by simp [dats]
    have hl1 := hokn.len
    refine cl (c15 (box_rb h9) (by omega) (by omega) hokn.size) ?_
    rintro _ w6 ⟨oa2, oc2, ds2, rfl, hds2, ho2⟩
    refine ⟨_, _, _, rfl, ?_⟩
    have h10 := Hs.over h9 ho2
    have third : (sd y.1 r.tsn = 0 ∨ (r.G = [] ∧ r.nr = [])) → F6_3 (fun y12_44 w46 => ∀ _g : Tm, rdB y12_44 fun b48 => Kr (.bool b48) w46) (.int .i64 (N : Int)) (.int .i64 now) (.pointer (some ⟨b7, 0, none⟩)) (.pointer (some ⟨bb, 0, none⟩)) (.slice oa2 (dats es1).length oc2) w6 := by
      intro hc
      obtain ⟨l', hl', q0, q1, q2, q3, q4⟩ := again_report ho1 hr0 p0 hc
      rw [← hl'] at hd
      rw [← hd] at q0 q1 q2 q3 q4
      refine c6_3 hN8 hch2 q4 q0 q1 q2 q3 hds2 h10 fun w' s' => ?_
      simp only [rdB_mk]
      exact fun _ => hK w' s'
    have last : ∀ (w' : World), Same W w' → Calls Try.prog 14 #[] w' fun e w'' => ∃ b, e = .returned (.bool b) ∧ Kr (.bool b) w'' := fun w' s' => by
      refine cl (c14 w') ?_
      rintro _ w'' ⟨rfl, s''⟩
      exact ⟨_, rfl, hK w'' (s'.trans s'' fun _ _ x => x)⟩
    have h11 : Hs W (pt b7 (.cells t.c 31 (0, 0)) :: (outL oa2 oc2 ds2 ++ (boxL bb N r.tsn a3 k3 es1 ++ refL rb N y.1 a' c' dd))) w6 := h10.perm (by
      rw [← List.append_assoc, ← List.append_assoc, ← List.append_assoc]
      exact List.perm_append_comm.trans (by simp))
    rw [br_dec]
    refine ⟨fun ha => ?_, fun ha => ?_⟩
    · refine h11.ldC 0 rfl rfl ?_
      rw [br_dec]
      refine ⟨fun _ => last w6 h11.old, fun hg => ?_⟩
      refine h11.ldC 0 rfl rfl ?_
      rw [br_dec]
      refine ⟨fun _ => last w6 h11.old, fun hg2 => ?_⟩
      refine third (.inr ?_)
      have g1 := hch2.gl
      have g2 := hch2.nl
      have e3 : r.G = [] := List.length_eq_zero_iff.1 (by omega)
      have e4 : r.NR = [] := List.length_eq_zero_iff.1 (by omega)
      refine ⟨e3, ?_⟩
      unfold Rp.nr
      rw [e4]
      split <;> rfl
    · refine third (.inl ?_)
      have : r.tsn = y.1 := by
        rw [hrd]
        have := ho1.cum
        show (y.1 + at_) % 4294967296 = y.1
        omega
      rw [this, sd_self]
theorem c6 {r0 : Rp} (hr : Rd W sa (os.flatMap opV)) (hok : ∀ o ∈ os, OpxOk W o) (hch : ChOk W s r0) (hat : 0 ≤ at_ ∧ at_ < 4294967296) (first paths : Int) :
    Calls Try.prog 6 #[.int .u32 first, .int .i64 paths, .slice sa os.length sc, s.v, .int .u32 at_, .int .i64 now] W (rt fun v w' => v = .bool true ∧ Same W w') := by
  refine F6_ok ?_
  unfold F6
  simp only [rdI_mk, rdC_mk]
  refine exR30_of s ⟨rfl, ?_⟩
  refine (Hs.start W).alc fun b7 w0 h0 => ?_
  refine cl (c9 h0 first paths) ?_
  rintro _ w1 (⟨hn, rfl, rfl⟩ | ⟨hn, bb, rfl, h1⟩)
  · refine ⟨_, _, rfl, cl (c17 (Hs.start w1) first paths) ?_⟩
    rintro _ w2 (⟨_, rfl, rfl⟩ | ⟨hn', _⟩)
    · refine ⟨_, _, rfl, ?_⟩
      rw [show ((1 : Int) != 0) = true from rfl, br_true, beq_self_eq_true, br_true]
      refine cl (c14 w2) ?_
      rintro _ w3 ⟨rfl, s3⟩
      exact ⟨_, rfl, rfl, h0.old.trans s3 fun _ _ x => x⟩
    · exact absurd hn' hn
  · refine ⟨_, _, rfl, cl (c17 h1 first paths) ?_⟩
    rintro _ w2 (⟨hn', _⟩ | ⟨_, rb, rfl, h2⟩)
    · exact absurd hn hn'
    · refine ⟨_, _, rfl, ?_⟩
      rw [show ((0 : Int) != 0) = false from rfl, br_false, br_false]
      simp only [Option.isNone_some]
      rw [br_false]
      obtain ⟨N, hN⟩ : ∃ N : Nat, paths = (N : Int) := ⟨paths.toNat, by omega⟩
      subst hN
      have hN8 : 0 < N ∧ N ≤ 8 := by omega
      have hc : 0 ≤ newC first ∧ newC first < 4294967296 := by unfold newC; omega
      have h3 : BY W [] [pt b7 (.cells s.c 31 (0, 0))] bb rb N (newC first, []) w2 := ⟨none, 0, [], none, 0, [], rfl, rfl, (show Hs W (boxL bb N (newC first) none 0 [] ++ (refL rb N (newC first) none 0 [] ++ [pt b7 (.cells s.c 31 (0, 0))])) w2 from Hs.flip.1 h2)⟩
      refine c6_6 hr hok hN8 hch hat (OkB.new N hc) h3 fun w3 s3 => ?_
      simp only [rdB_mk]
      exact fun _ => ⟨trivial, s3⟩
end
end Go.Proofs.Ytmliokbonkndaaa
namespace Go.Proofs.Ytmliokbonkndaaa
open Go Go.Sh
open Go.ChangeShapes Go.WideShapes Go.ChangeAt Go.WideMaps Go.WideElems Go.RowKit
open Row

namespace Row6
theorem func6 : Try.prog.funcs[6]? = some Try.f6 := by kernel_rfl
theorem params6 : Try.f6.params.toList = [22, 3, 63, 31, 22, 3] := by kernel_rfl
set_option maxRecDepth 100000 in
theorem lifted6 (os : Os) (started : os.Started) (H : Type) (enc : TypeId × Value → H) :
    ReturnsInHanded {} Try.checked os 6 .any (Rows.outboxAgainSpec.pre6 enc Try.prog Try.f6 Rows.outboxAgainRow.domain false) (Rows.outboxAgainSpec.post enc Try.prog Try.f6 false true false false) := by
  refine returnsInHanded_of_change_sized (C := Try.checked) own started (by kernel_rfl) func6
    (ChangeSpec.witness6 (enc := enc) (C := Try.checked) false ⟨#[], #[.int .u32 0, .int .i64 0, .slice none 0 0, R30.z.v, .int .u32 0, .int .i64 0], []⟩ 8 (by kernel_rfl) (by kernel_rfl) (by kernel_rfl) (by kernel_rfl)) ?_
  intro W base args ds gs before hval0 hW _ hz _
  have hval : ∀ (j : Nat) t v, Try.f6.params[j]? = some t → args[j]? = some v → Value.okWide Try.prog W .any base t v := hval0
  have hW' := hW
  obtain ⟨p, q, hA0, hV, rfl, hfz, hnd⟩ := hW
  have hA : DataW.TrodAll enc Try.prog W 0 (fun _ => true) true Try.f6.params.toList args.toList ds p := hA0
  rw [params6] at hA
  obtain ⟨v0, v1, v2, v3, v4, v5, d0, d1, d2, d3, d4, d5, p0, p1, p2, p3, p4, p5, rfl, rfl, rfl, h0, h1, h2, h3, h4, h5⟩ := trodAll_six hA
  obtain ⟨rfl, rfl⟩ := trodVars_none hV
  clear hA0 hval0
  have hlt0 : ∀ x ∈ p0, x.block < W.heap.size := fun x hx => by simpa using hW'.lt x (by simp [hx])
  have h0k := h0
  have hlt1 : ∀ x ∈ p1, x.block < W.heap.size := fun x hx => by simpa using hW'.lt x (by simp [hx])
  have h1k := h1
  have hlt2 : ∀ x ∈ p2, x.block < W.heap.size := fun x hx => by simpa using hW'.lt x (by simp [hx])
  have h2k := h2
  have hlt3 : ∀ x ∈ p3, x.block < W.heap.size := fun x hx => by simpa using hW'.lt x (by simp [hx])
  have h3k := h3
  have hlt4 : ∀ x ∈ p4, x.block < W.heap.size := fun x hx => by simpa using hW'.lt x (by simp [hx])
  have h4k := h4
  have hlt5 : ∀ x ∈ p5, x.block < W.heap.size := fun x hx => by simpa using hW'.lt x (by simp [hx])
  have h5k := h5
  have hwt := hz
  rw [params6] at hwt
  obtain ⟨n0, rfl, rfl, rfl, hn0⟩ := open_int u22 (hval 0 22 v0 (by kernel_rfl) rfl) h0
  have hn0 := wf_u32 hn0
  obtain ⟨n1, rfl, rfl, rfl, hn1⟩ := open_int u3 (hval 1 3 v1 (by kernel_rfl) rfl) h1
  have hn1 := wf_i64 hn1
  obtain ⟨a2, c2, os2, rfl, hr2, ok2⟩ := ops_in (hval 2 63 v2 (by kernel_rfl) rfl) (light_each hwt (j := 2) rfl rfl) h2
  obtain ⟨s3, r3, parts3, rfl, hk3, hd3, hg3⟩ := chunk_in (hval 3 31 v3 (by kernel_rfl) rfl) (light_each hwt (j := 3) rfl rfl) h3
  obtain ⟨n4, rfl, rfl, rfl, hn4⟩ := open_int u22 (hval 4 22 v4 (by kernel_rfl) rfl) h4
  have hn4 := wf_u32 hn4
  obtain ⟨n5, rfl, rfl, rfl, hn5⟩ := open_int u3 (hval 5 3 v5 (by kernel_rfl) rfl) h5
  have hn5 := wf_i64 hn5
  have key := c6 (sc := c2) hr2 ok2 hk3 hn4 n0 n1 (now := n5)
  refine key.mono fun e W' ⟨v, he, hv, hf⟩ => ?_
  subst he; subst hv
  have hbelow : Below W.heap.size W W' := hf.below (Nat.le_refl _) fun _ x => x.elim
  refine ⟨_, rfl, _, _, _, [], [] ++ ([] ++ (p2 ++ (p3 ++ ([] ++ ([]))))), [], hW', ?_, ?_, rfl, hbelow.frame _, fun h => by cases h⟩
  · exact trodAll_mk1 (shut_bool u4 _)
  · exact trodAll_mk6 (Below.trod laidOut (by kernel_rfl) (of_decide_eq_true (by kernel_rfl)) h0k hbelow hlt0) (Below.trod laidOut (by kernel_rfl) (of_decide_eq_true (by kernel_rfl)) h1k hbelow hlt1) (Below.trod laidOut (by kernel_rfl) (of_decide_eq_true (by kernel_rfl)) h2k hbelow hlt2) (Below.trod laidOut (by kernel_rfl) (of_decide_eq_true (by kernel_rfl)) h3k hbelow hlt3) (Below.trod laidOut (by kernel_rfl) (of_decide_eq_true (by kernel_rfl)) h4k hbelow hlt4) (Below.trod laidOut (by kernel_rfl) (of_decide_eq_true (by kernel_rfl)) h5k hbelow hlt5)
end Row6
theorem outboxAgain_holds : Rows.OutboxAgainSaid :=
  OpenClaim.holds_of_wide 6 Try.f6 rfl rfl rfl rfl rfl rfl rfl ⟨rfl, rfl, rfl, rfl, rfl⟩ rfl rfl rfl rfl rfl (by kernel_rfl) Row6.func6 (by kernel_rfl)
    (of_decide_eq_true (by kernel_rfl)) (by unfold Func.isWrapper; first | (rw [if_pos (by decide +kernel)]; kernel_rfl) | (rw [if_neg (by decide +kernel)]; exact ⟨rfl, rfl⟩))
    (fun os started H enc _ => Row6.lifted6 os started H enc)
#print axioms outboxAgain_holds
end Go.Proofs.Ytmliokbonkndaaa
