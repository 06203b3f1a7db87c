/-
  A report, to both boxes.
-/
import Derived.Test.YtmliokbonkndaaaRqN
namespace Go.Proofs.Ytmliokbonkndaaa
open Go Go.Sh
def Opx.s3 (o : Opx) (cum : Int) : R30 := { o.s with f2 := (cum + o.fwd) % 4294967296 }
section
variable {W w : World} {L M : List HP} {bb rb N : Nat} {x : St} {o : Opx}
theorem rep_ok (ok : OpxOk W o) (L : List HP) (cum : Int) : RpOk W L (o.s3 cum) (o.rep cum) :=
  ⟨ok.chunk.kind, rfl, by show 0 ≤ (cum + o.fwd) % 4294967296 ∧ (cum + o.fwd) % 4294967296 < 4294967296; omega, ok.chunk.gl, RdL.old ok.chunk.gr, ok.chunk.nl, RdL.old ok.chunk.nr, ok.chunk.gok, ok.chunk.nok⟩
theorem rep_ch (ok : OpxOk W o) (cum : Int) : ChOk W (o.s3 cum) (o.rep cum) :=
  ⟨ok.chunk.kind, rfl, by show 0 ≤ (cum + o.fwd) % 4294967296 ∧ (cum + o.fwd) % 4294967296 < 4294967296; omega, ok.chunk.gl, ok.chunk.gr, ok.chunk.nl, ok.chunk.nr, ok.chunk.gok, ok.chunk.nok⟩
theorem repE_range {r : Rp} {cum now : Int} {len : Nat} (h : repE r cum len now = 0) (hl : len ≤ 1048576) : 0 ≤ sd cum r.tsn ∧ sd cum r.tsn ≤ (len : Int) := by
  have h2 : rightE r.kind r.tsn cum len [r.G, r.nr] = 0 := by
    unfold repE at h
    split at h
    · cases h
    · split at h
      · cases h
      · exact h
  exact right_zero h2 hl
theorem rep_2 {b4 b6 b59 : Nat} {P1 : List HP} {oa : Option Addr} {M oc : Nat} {f g : Int} {F : Nat → R52} {n75 cum1 : Int} {a1 c1 a' c'} {es1 : List (Nat × En)} {ds : List Dt} (hN8 : 0 < N ∧ N ≤ 8) (ho : OkB N x.1 x.2) (ok : OpxOk W o) (hk : o.kind = 3) (hds2 : fsts ds = x.2) (hM : M ≤ 8)
    (hP1 : ∀ w' Y, Hs W (P1 ++ Y) w' → Rd w' oa (aV M F))
    (hcase : (repE (o.rep x.1) x.1 x.2.length o.now ≠ 0 ∧ M = 0 ∧ f = 0 ∧ g = 0 ∧ n75 = repE (o.rep x.1) x.1 x.2.length o.now ∧ dats es1 = x.2 ∧ cum1 = x.1) ∨ (repE (o.rep x.1) x.1 x.2.length o.now = 0 ∧ M = N ∧ f = ((o.rep x.1).sums x.1 x.2).1 ∧ g = ((o.rep x.1).sums x.1 x.2).2 ∧ F = (o.rep x.1).paths x.1 o.now x.2 ∧ n75 = 0 ∧ dats es1 = ((o.rep x.1).l2 x.1 o.now x.2).drop (sd x.1 (o.rep x.1).tsn).toNat ∧ cum1 = (o.rep x.1).tsn))
    (h : Hs W (P1 ++ ((pt b59 (.cells (o.s3 x.1).c 31 (0, 0)) :: PO b6 b4 o) ++ (boxL bb N cum1 a1 c1 es1 ++ (refL rb N x.1 a' c' ds ++ L)))) w)
    {K : R47 → Int → Int → Bool → World → Prop} (hK : ∀ s e w', s.f1 = (actX N o x).2 → BY W (PO b6 b4 o) L bb rb N (actX N o x).1 w' → K s e e true w') :
    alc (.cells ((R47.mk none 0 0 0 0)).c 48) w fun b76 w77 =>
    stcL (Addr.mk b76 0 none) 0 (R47.mk oa M oc f g).l w77 fun w78 =>
    ldR30 ⟨b59, 0, none⟩ w78 fun s79 =>
    ldI .i64 ⟨b4, 0 + 2, none⟩ w78 fun n80 =>
    Calls Try.prog 44 #[.pointer (some ⟨rb, 0, none⟩), s79.v, .int .i64 n80] w78 fun e82 w81 =>
    exR47 fun s83 => ∃ n84, e82 = .returned (.tuple #[s83.v, .int .i64 n84]) ∧ (alc (.cells ((R47.mk none 0 0 0 0)).c 48) w81 fun b85 w86 =>
    stcL (Addr.mk b85 0 none) 0 s83.l w86 fun w87 =>
    drw w87 fun w88 => ∃ w89 : World, Pres w89 w88 ∧ (ldR47 (Addr.mk b76 0 none) w89 fun s90 =>
    ldR47 (Addr.mk b76 0 none) w88 fun s91 =>
    ldR47 (Addr.mk b85 0 none) w88 fun s92 =>
    Calls Try.prog 45 #[s91.v, s92.v] w88 fun e94 w93 => ∃ b95, e94 = .returned (.bool b95) ∧ (Pres w89 w93 ∧ K s90 n75 n84 b95 w93))) := by
  have hds : ds.length = x.2.length := by rw [← hds2]; simp [fsts]
  have hl := ho.len
  have hp2 : ∀ e ∈ fsts ds, 0 ≤ e.path ∧ e.path < (N : Int) := by rw [hds2]; exact ho.path
  have ht2 : ∀ e ∈ fsts ds, 0 ≤ e.tsn ∧ e.tsn < 4294967296 := by
    rw [hds2]
    intro e he
    obtain ⟨k, hk⟩ := List.getElem?_of_mem he
    rw [ho.tsn k e hk]
    unfold nxt
    omega
  have eX : actX N o x = if repE (o.rep x.1) x.1 x.2.length o.now = 0 then (((o.rep x.1).tsn, ((o.rep x.1).l2 x.1 o.now x.2).drop (sd x.1 (o.rep x.1).tsn).toNat), ((o.rep x.1).sums x.1 x.2).1) else (x, 0) := by
    unfold actX
    rw [if_neg (by omega), if_neg (by omega), if_pos hk]
  refine h.alc fun b76 w1 h1 => h1.stcL 0 rfl rfl fun w2 h2 => ?_
  obtain ⟨PQ, hPQ⟩ : ∃ PQ, PQ = pt b59 (.cells (o.s3 x.1).c 31 (0, 0)) :: PO b6 b4 o := ⟨_, rfl⟩
  have h2 : Hs W ((pt b76 (.cells (R47.mk oa M oc f g).c 48 (0, 0)) :: P1) ++ (PQ ++ (boxL bb N cum1 a1 c1 es1 ++ (refL rb N x.1 a' c' ds ++ L)))) w2 := by rw [hPQ]; exact h2
  have g2 : Hs W (PQ ++ ((pt b76 (.cells (R47.mk oa M oc f g).c 48 (0, 0)) :: P1) ++ (boxL bb N cum1 a1 c1 es1 ++ (refL rb N x.1 a' c' ds ++ L)))) w2 := Hs.flip.1 h2
  have g2' : Hs W ((pt b59 (.cells (o.s3 x.1).c 31 (0, 0)) :: PO b6 b4 o) ++ ((pt b76 (.cells (R47.mk oa M oc f g).c 48 (0, 0)) :: P1) ++ (boxL bb N cum1 a1 c1 es1 ++ (refL rb N x.1 a' c' ds ++ L)))) w2 := by rw [← hPQ]; exact g2
  refine ldR30_of (s := o.s3 x.1) (g2'.atL 0 rfl) (g2'.ldI 2 rfl rfl ?_)
  obtain ⟨Z, hZ⟩ : ∃ Z, Z = PQ ++ ((pt b76 (.cells (R47.mk oa M oc f g).c 48 (0, 0)) :: P1) ++ boxL bb N cum1 a1 c1 es1) := ⟨_, rfl⟩
  have g3 : Hs W (Z ++ (refL rb N x.1 a' c' ds ++ L)) w2 := by rw [hZ]; exact g2.cast (by simp)
  have g4 := Hs.flip.1 g3
  refine cl (c44 (N := N) rfl hN8 (by omega) (rep_ch ok x.1) ht2 hp2 ho.cum g4) ?_
  rintro v w3 hq
  have fin : ∀ (oa2 : Option Addr) (oc2 : Nat) (F2 : Nat → R52) (P3 : List HP) (n84 cum2 : Int) (a'' : Option Addr) (c'' : Nat) (ds2 : List Dt), v = .tuple #[(R47.mk oa2 M oc2 f g).v, .int .i64 n84] → n84 = n75 → (∀ p < M, F p = F2 p) → (∀ w' Y, Hs W (P3 ++ Y) w' → Rd w' oa2 (aV M F2)) → Hs W (P3 ++ (refL rb N cum2 a'' c'' ds2 ++ (Z ++ L))) w3 → f = (actX N o x).2 → dats es1 = (actX N o x).1.2 → fsts ds2 = (actX N o x).1.2 → cum1 = (actX N o x).1.1 → cum2 = (actX N o x).1.1 →
      exR47 fun s83 => ∃ n84, Ending.returned v = .returned (.tuple #[s83.v, .int .i64 n84]) ∧ (alc (.cells ((R47.mk none 0 0 0 0)).c 48) w3 fun b85 w86 =>
    stcL (Addr.mk b85 0 none) 0 s83.l w86 fun w87 =>
    drw w87 fun w88 => ∃ w89 : World, Pres w89 w88 ∧ (ldR47 (Addr.mk b76 0 none) w89 fun s90 =>
    ldR47 (Addr.mk b76 0 none) w88 fun s91 =>
    ldR47 (Addr.mk b85 0 none) w88 fun s92 =>
    Calls Try.prog 45 #[s91.v, s92.v] w88 fun e94 w93 => ∃ b95, e94 = .returned (.bool b95) ∧ (Pres w89 w93 ∧ K s90 n75 n84 b95 w93))) := by
    intro oa2 oc2 F2 P3 n84 cum2 a'' c'' ds2 hv hn hF hP3 h5 hf hd1 hd2 hx1 hx2
    subst hv; subst hn
    refine exR47_of (R47.mk oa2 M oc2 f g) ⟨_, rfl, ?_⟩
    refine h5.alc fun b85 w4 h6 => h6.stcL 0 rfl rfl fun w5 h7 => h7.drw fun w6 h8 => ⟨w6, Pres.of_Same (Fr.refl _), ?_⟩
    have h8 : Hs W (pt b85 (.cells (R47.mk oa2 M oc2 f g).c 48 (0, 0)) :: (P3 ++ (refL rb N cum2 a'' c'' ds2 ++ (Z ++ L)))) w6 := h8
    have h9 := Hs.flip.1 (Hs.dropL h8.drop)
    have h10 : Hs W (PQ ++ ((pt b76 (.cells (R47.mk oa M oc f g).c 48 (0, 0)) :: P1) ++ (boxL bb N cum1 a1 c1 es1 ++ (refL rb N cum2 a'' c'' ds2 ++ L)))) w6 := by rw [hZ] at h9; exact h9.cast (by simp)
    have h11 := Hs.flip.1 h10
    have h11' : Hs W (pt b76 (.cells (R47.mk oa M oc f g).c 48 (0, 0)) :: (P1 ++ (PQ ++ (boxL bb N cum1 a1 c1 es1 ++ (refL rb N cum2 a'' c'' ds2 ++ L))))) w6 := h11
    refine ldR47_of (s := R47.mk oa M oc f g) (h11'.atL 0 rfl) (ldR47_of (s := R47.mk oa M oc f g) (h11'.atL 0 rfl) (ldR47_of (s := R47.mk oa2 M oc2 f g) (h8.atL 0 rfl) ?_))
    refine cl (c45 (hP1 w6 _ h11'.drop) (hP3 w6 _ h8.drop) hF (by omega)) ?_
    rintro _ w7 ⟨rfl, s7⟩
    refine ⟨_, rfl, Pres.of_Same s7, hK _ _ w7 hf ?_⟩
    have h12 : Hs W (PQ ++ (boxL bb N cum1 a1 c1 es1 ++ (refL rb N cum2 a'' c'' ds2 ++ L))) w7 := Hs.dropL (h11.same s7)
    rw [hPQ] at h12
    have h13 : Hs W (PO b6 b4 o ++ (boxL bb N cum1 a1 c1 es1 ++ (refL rb N cum2 a'' c'' ds2 ++ L))) w7 := h12.drop
    rw [hx1, hx2] at h13
    exact ⟨a1, c1, es1, a'', c'', ds2, hd1, hd2, h13⟩
  unfold RepQ at hq
  rw [hds] at hq
  rcases hcase with ⟨q0, rfl, rfl, rfl, hn, hd, hx⟩ | ⟨q0, rfl, hf, hg, hF, hn, hd, hx⟩
  · rcases hq with ⟨_, hv, h5⟩ | ⟨p0, _⟩
    · exact fin none 0 F [] _ _ _ _ _ hv hn.symm (fun _ _ => rfl) (fun _ _ _ => Rd.nil _ _) h5 (by rw [eX, if_neg q0]) (by rw [eX, if_neg q0]; exact hd) (by rw [eX, if_neg q0]; exact hds2) (by rw [eX, if_neg q0]; exact hx) (by rw [eX, if_neg q0])
    · exact absurd p0 q0
  · rcases hq with ⟨p0, _⟩ | ⟨_, oa2, oc2, hv, a'', c'', ds2, hfs, h5⟩
    · exact absurd q0 p0
    · obtain ⟨z0, z1⟩ := repE_range q0 hl
      obtain ⟨r1, r2, r3⟩ := rep_eq ho (rep_ok ok L x.1).t0 z0 z1 o.now
      rw [hds2, r2, ← hf, ← hg] at hv
      rw [hds2] at hfs h5
      refine fin oa2 oc2 (rPaths (o.rep x.1) o.now x.2) [slP 53 4 oa2 M oc2 (aV M (rPaths (o.rep x.1) o.now x.2))] 0 _ a'' c'' ds2 hv hn.symm (fun p _ => by rw [hF, r3]) (fun w' Y hw => hw.rd 0 rfl) h5 (by rw [eX, if_pos q0]; exact hf) (by rw [eX, if_pos q0]; exact hd) (by rw [eX, if_pos q0, hfs, r1]) (by rw [eX, if_pos q0]; exact hx) (by rw [eX, if_pos q0])
/-- both boxes take the report in -/
theorem act_report {b4 b6 b59 : Nat} (hN8 : 0 < N ∧ N ≤ 8) (ho : OkB N x.1 x.2) (ok : OpxOk W o) (hk : o.kind = 3)
    (h : BY W (pt b59 (.cells (o.s3 x.1).c 31 (0, 0)) :: PO b6 b4 o) L bb rb N x w)
    {K : R47 → Int → Int → Bool → World → Prop} (hK : ∀ s e w', s.f1 = (actX N o x).2 → BY W (PO b6 b4 o) L bb rb N (actX N o x).1 w' → K s e e true w') :
    Calls Try.prog 13 #[.pointer (some ⟨bb, 0, none⟩), (o.s3 x.1).v, .int .i64 o.now] w fun e73 w72 =>
    exR47 fun s74 => ∃ n75, e73 = .returned (.tuple #[s74.v, .int .i64 n75]) ∧ (alc (.cells ((R47.mk none 0 0 0 0)).c 48) w72 fun b76 w77 =>
    stcL (Addr.mk b76 0 none) 0 s74.l w77 fun w78 =>
    ldR30 ⟨b59, 0, none⟩ w78 fun s79 =>
    ldI .i64 ⟨b4, 0 + 2, none⟩ w78 fun n80 =>
    Calls Try.prog 44 #[.pointer (some ⟨rb, 0, none⟩), s79.v, .int .i64 n80] w78 fun e82 w81 =>
    exR47 fun s83 => ∃ n84, e82 = .returned (.tuple #[s83.v, .int .i64 n84]) ∧ (alc (.cells ((R47.mk none 0 0 0 0)).c 48) w81 fun b85 w86 =>
    stcL (Addr.mk b85 0 none) 0 s83.l w86 fun w87 =>
    drw w87 fun w88 => ∃ w89 : World, Pres w89 w88 ∧ (ldR47 (Addr.mk b76 0 none) w89 fun s90 =>
    ldR47 (Addr.mk b76 0 none) w88 fun s91 =>
    ldR47 (Addr.mk b85 0 none) w88 fun s92 =>
    Calls Try.prog 45 #[s91.v, s92.v] w88 fun e94 w93 => ∃ b95, e94 = .returned (.bool b95) ∧ (Pres w89 w93 ∧ K s90 n75 n84 b95 w93)))) := by
  obtain ⟨a, c, es, a', c', ds, h1, h2, h⟩ := h
  have hes : es.length = x.2.length := by rw [← h1]; simp [dats]
  have hds : ds.length = x.2.length := by rw [← h2]; simp [fsts]
  have hl := ho.len
  have h3 := Hs.flip.1 h
  have hp1 : ∀ e ∈ dats es, 0 ≤ e.path ∧ e.path < (N : Int) := by rw [h1]; exact ho.path
  have hp2 : ∀ e ∈ fsts ds, 0 ≤ e.path ∧ e.path < (N : Int) := by rw [h2]; exact ho.path
  have ht2 : ∀ e ∈ fsts ds, 0 ≤ e.tsn ∧ e.tsn < 4294967296 := by
    rw [h2]
    intro e he
    obtain ⟨k, hk⟩ := List.getElem?_of_mem he
    rw [ho.tsn k e hk]
    unfold nxt
    omega
  have eX : actX N o x = if repE (o.rep x.1) x.1 x.2.length o.now = 0 then (((o.rep x.1).tsn, ((o.rep x.1).l2 x.1 o.now x.2).drop (sd x.1 (o.rep x.1).tsn).toNat), ((o.rep x.1).sums x.1 x.2).1) else (x, 0) := by
    unfold actX
    rw [if_neg (by omega), if_neg (by omega), if_pos hk]
  have hc13 := c13 (N := N) (rep_ok ok _ x.1) (by omega) rfl hN8 ho.cum hp1 h3 (now := o.now)
  refine cl hc13 ?_
  rintro v w1 hq
  unfold RepP at hq
  rw [hes] at hq
  rcases hq with ⟨h0, rfl, h4⟩ | ⟨h0, s', rfl, oa, oc, a3, k3, es1, rfl, hd, h4⟩
  · refine exR47_of (R47.mk none 0 0 0 0) ⟨_, rfl, ?_⟩
    have h5 : Hs W ([] ++ ((pt b59 (.cells (o.s3 x.1).c 31 (0, 0)) :: PO b6 b4 o) ++ (boxL bb N x.1 a c es ++ (refL rb N x.1 a' c' ds ++ L)))) w1 := (show Hs W ((pt b59 (.cells (o.s3 x.1).c 31 (0, 0)) :: PO b6 b4 o) ++ (boxL bb N x.1 a c es ++ (refL rb N x.1 a' c' ds ++ L))) w1 from Hs.flip.1 h4)
    exact rep_2 (F := fun _ => ak0) hN8 ho ok hk h2 (Nat.zero_le _) (fun _ _ _ => Rd.nil _ _) (.inl ⟨h0, rfl, rfl, rfl, rfl, h1, rfl⟩) h5 hK
  · rw [h1] at hd h4 ⊢
    refine exR47_of (R47.mk oa N oc ((o.rep x.1).sums x.1 x.2).1 ((o.rep x.1).sums x.1 x.2).2) ⟨_, rfl, ?_⟩
    have h5 : Hs W ([slP 53 4 oa N oc (aV N ((o.rep x.1).paths x.1 o.now x.2))] ++ (boxL bb N (o.rep x.1).tsn a3 k3 es1 ++ ((pt b59 (.cells (o.s3 x.1).c 31 (0, 0)) :: PO b6 b4 o) ++ (refL rb N x.1 a' c' ds ++ L)))) w1 := h4
    have h6 : Hs W ([slP 53 4 oa N oc (aV N ((o.rep x.1).paths x.1 o.now x.2))] ++ ((pt b59 (.cells (o.s3 x.1).c 31 (0, 0)) :: PO b6 b4 o) ++ (boxL bb N (o.rep x.1).tsn a3 k3 es1 ++ (refL rb N x.1 a' c' ds ++ L)))) w1 := h5.perm (List.Perm.append_left _ (List.perm_append_comm_assoc _ _ _))
    have hP : ∀ w' Y, Hs W ([slP 53 4 oa N oc (aV N ((o.rep x.1).paths x.1 o.now x.2))] ++ Y) w' → Rd w' oa (aV N ((o.rep x.1).paths x.1 o.now x.2)) := fun w' Y hw => hw.rd 0 rfl
    exact rep_2 hN8 ho ok hk h2 hN8.2 hP (.inr ⟨h0, rfl, rfl, rfl, rfl, rfl, hd, rfl⟩) h6 hK
end
end Go.Proofs.Ytmliokbonkndaaa
namespace Go.Proofs.Ytmliokbonkndaaa
open Go Go.Sh
section
variable {W w : World} {L M : List HP} {bb rb N : Nat} {x : St} {o : Opx}
theorem act_end {b4 b6 : Nat} {s : R47} {e : Int} (hs : s.f1 = (actX N o x).2) (h : BY W (PO b6 b4 o) L bb rb N (actX N o x).1 w) : Sh.stcL ⟨b6, 0, none⟩ 0 s.l w fun w2 => ldR47 ⟨b6, 0, none⟩ w2 fun s2 => ActP W L bb rb N o x (.tuple #[s2.v, .bool (e == e)]) w2 := by
  obtain ⟨a, c, es, a', c', ds, h1, h2, h⟩ := h
  refine h.stcL 0 rfl rfl fun w2 h3 => ?_
  have h3 : Hs W (pt b6 (.cells s.c 48 (0, 0)) :: pt b4 (.cells o.R.c 71 (0, 0)) :: (boxL bb N (actX N o x).1.1 a c es ++ (refL rb N (actX N o x).1.1 a' c' ds ++ L))) w2 := h3
  refine ldR47_of (s := s) (h3.atL 0 rfl) ⟨s, by rw [beq_self_eq_true], hs, a, c, es, a', c', ds, h1, h2, h3.drop.drop⟩
theorem c20 (hN8 : 0 < N ∧ N ≤ 8) (ho : OkB N x.1 x.2) (ok : OpxOk W o) (h : BY W [] L bb rb N x w) :
    Calls Try.prog 20 #[.pointer (some ⟨bb, 0, none⟩), .pointer (some ⟨rb, 0, none⟩), o.R.v] w (rt (ActP W L bb rb N o x)) := by
  refine F20_ok ?_
  unfold F20
  simp only [rdP_mk]
  refine exR70_of o.R ⟨rfl, ?_⟩
  obtain ⟨a, c, es, a', c', ds, h1, h2, h⟩ := h
  have h : Hs W (boxL bb N x.1 a c es ++ (refL rb N x.1 a' c' ds ++ L)) w := h
  refine h.alc fun b4 w1 g1 => g1.alc fun b6 w2 g2 => ?_
  have g2 : Hs W (PO b6 b4 o ++ (boxL bb N x.1 a c es ++ (refL rb N x.1 a' c' ds ++ L))) w2 := g2
  have hy : BY W (PO b6 b4 o) L bb rb N x w2 := ⟨a, c, es, a', c', ds, h1, h2, g2⟩
  simp only [add_mk]
  refine g2.ldI 1 rfl rfl ?_
  show br (o.kind == 1) _ _
  rw [br_iff]
  refine ⟨fun hk => ?_, fun hk1 => ?_⟩
  · have hk : o.kind = 1 := by simpa using hk
    have f0 : (actX N o x).2 = 0 := by unfold actX; rw [if_pos hk]; split <;> rfl
    refine g2.ldI 1 rfl rfl (ldR40_of (s := o.e.pt o.da o.dc) (op_part (g2.at 1 rfl)) (g2.ldI 1 rfl rfl ?_))
    refine act_put hN8 ho ok hk hy (K := fun n14 n15 n21 n22 w19 => br (n14 == n21) (Sh.stcL ⟨b6, 0, none⟩ 0 (R47.mk none 0 0 0 0).l w19 fun w23 => ldR47 ⟨b6, 0, none⟩ w23 fun s24 => ActP W L bb rb N o x (.tuple #[s24.v, .bool (n15 == n22)]) w23) (Sh.stcL ⟨b6, 0, none⟩ 0 (R47.mk none 0 0 0 0).l w19 fun w23 => ldR47 ⟨b6, 0, none⟩ w23 fun s24 => ActP W L bb rb N o x (.tuple #[s24.v, .bool false]) w23)) fun c e w3 h3 => ?_
    rw [beq_self_eq_true, br_true]
    exact act_end (s := R47.z) f0.symm h3
  have hk1 : ¬ o.kind = 1 := by
    have : (o.kind == 1) = false := hk1
    simpa using this
  rw [br_iff]
  refine ⟨fun hk => ?_, fun hk2 => ?_⟩
  · have hk : (o.kind == 2) = true := hk
    have hk : o.kind = 2 := by simpa using hk
    have f0 : (actX N o x).2 = 0 := by unfold actX; rw [if_neg hk1, if_pos hk]; split <;> rfl
    refine g2.ldI 1 rfl rfl (g2.ldI 1 rfl rfl ?_)
    refine act_again hN8 ho hk hy (K := fun b51 b32 n33 b42 n43 w49 => br b51 (br (b32 == b42) (Sh.stcL ⟨b6, 0, none⟩ 0 (R47.mk none 0 0 0 0).l w49 fun w52 => ldR47 ⟨b6, 0, none⟩ w52 fun s53 => ActP W L bb rb N o x (.tuple #[s53.v, .bool (n33 == n43)]) w52) (Sh.stcL ⟨b6, 0, none⟩ 0 (R47.mk none 0 0 0 0).l w49 fun w54 => ldR47 ⟨b6, 0, none⟩ w54 fun s55 => ActP W L bb rb N o x (.tuple #[s55.v, .bool false]) w54)) (Sh.stcL ⟨b6, 0, none⟩ 0 (R47.mk none 0 0 0 0).l w49 fun w56 => ldR47 ⟨b6, 0, none⟩ w56 fun s57 => ActP W L bb rb N o x (.tuple #[s57.v, .bool false]) w56)) fun b e w3 h3 => ?_
    rw [br_true, beq_self_eq_true, br_true]
    exact act_end (s := R47.z) f0.symm h3
  have hk2 : ¬ o.kind = 2 := by
    have : (o.kind == 2) = false := hk2
    simpa using this
  rw [br_iff]
  refine ⟨fun hk => ?_, fun hk3 => ?_⟩
  · have hk : (o.kind == 3) = true := hk
    have hk : o.kind = 3 := by simpa using hk
    refine ldR30_of (s := o.s) (op_chunk (g2.at 1 rfl)) ?_
    refine g2.alc fun b59 w3 g3 => g3.stcL 0 rfl rfl fun w4 g4 => g4.drw fun w5 g5 => ?_
    have g5 : Hs W (pt b59 (.cells o.s.c 31 (0, 0)) :: (PO b6 b4 o ++ (boxL bb N x.1 a c es ++ (refL rb N x.1 a' c' ds ++ L)))) w5 := g5
    have hq : RQ w5 rb N x.1 a' c' ds := ref_rq (toR.1 g5.drop)
    simp only [nn_some, add_mk]
    refine ldI_at hq.blk rfl (g5.ldI 2 rfl rfl ?_)
    refine clr (s21 x.1 o.fwd w5 ho.cum.1 ho.cum.2 ok.fwd.1 ok.fwd.2) ⟨_, rfl, ?_⟩
    refine g5.stc 0 rfl (by simp [R30.c]) fun w6 g6 => ?_
    have g6 : Hs W ((pt b59 (.cells (o.s3 x.1).c 31 (0, 0)) :: PO b6 b4 o) ++ (boxL bb N x.1 a c es ++ (refL rb N x.1 a' c' ds ++ L))) w6 := g6
    refine ldR30_of (s := o.s3 x.1) (g6.atL 0 rfl) (g6.ldI 2 rfl rfl ?_)
    have hy6 : BY W (pt b59 (.cells (o.s3 x.1).c 31 (0, 0)) :: PO b6 b4 o) L bb rb N x w6 := ⟨a, c, es, a', c', ds, h1, h2, g6⟩
    refine act_report hN8 ho ok hk hy6 (K := fun s90 n75 n84 b95 w93 => br b95 (Sh.stcL ⟨b6, 0, none⟩ 0 s90.l w93 fun w96 => ldR47 ⟨b6, 0, none⟩ w96 fun s97 => ActP W L bb rb N o x (.tuple #[s97.v, .bool (n75 == n84)]) w96) (Sh.stcL ⟨b6, 0, none⟩ 0 s90.l w93 fun w98 => ldR47 ⟨b6, 0, none⟩ w98 fun s99 => ActP W L bb rb N o x (.tuple #[s99.v, .bool false]) w98)) fun s e w3 hs h3 => ?_
    rw [br_true]
    exact act_end hs h3
  have hk3 : ¬ o.kind = 3 := by
    have : (o.kind == 3) = false := hk3
    simpa using this
  rw [br_iff]
  refine ⟨fun hk => ?_, fun hk4 => ?_⟩
  · have hk : (o.kind == 4) = true := hk
    have hk : o.kind = 4 := by simpa using hk
    have f0 : (actX N o x).2 = 0 := by unfold actX; rw [if_neg hk1, if_neg hk2, if_neg hk3, if_pos hk]; split <;> rfl
    refine g2.ldI 1 rfl rfl ?_
    refine act_timeout hN8 ho hk hy (K := fun n14 n15 n21 n22 w19 => br (n14 == n21) (Sh.stcL ⟨b6, 0, none⟩ 0 (R47.mk none 0 0 0 0).l w19 fun w23 => ldR47 ⟨b6, 0, none⟩ w23 fun s24 => ActP W L bb rb N o x (.tuple #[s24.v, .bool (n15 == n22)]) w23) (Sh.stcL ⟨b6, 0, none⟩ 0 (R47.mk none 0 0 0 0).l w19 fun w23 => ldR47 ⟨b6, 0, none⟩ w23 fun s24 => ActP W L bb rb N o x (.tuple #[s24.v, .bool false]) w23)) fun c e w3 h3 => ?_
    rw [beq_self_eq_true, br_true]
    exact act_end (s := R47.z) f0.symm h3
  · have hk4 : ¬ o.kind = 4 := by
      have : (o.kind == 4) = false := hk4
      simpa using this
    have e0 : actX N o x = (x, 0) := by unfold actX; rw [if_neg hk1, if_neg hk2, if_neg hk3, if_neg hk4]
    have hy2 : BY W (PO b6 b4 o) L bb rb N (actX N o x).1 w2 := by rw [e0]; exact hy
    have f0 : (actX N o x).2 = 0 := by rw [e0]
    have := act_end (s := R47.z) (e := 0) f0.symm hy2
    rw [beq_self_eq_true] at this
    exact this
end
end Go.Proofs.Ytmliokbonkndaaa
namespace Go.Proofs.Ytmliokbonkndaaa
open Go Go.Sh
theorem act_ok {W : World} {N : Nat} {x : St} {o : Opx} (h : OkB N x.1 x.2) (ok : OpxOk W o) : OkB N (actX N o x).1.1 (actX N o x).1.2 := by
  unfold actX
  split
  · split
    · exact h.put ‹_› ok.byt
    · exact h
  · split
    · split
      · exact h.again ‹_›
      · exact h
    · split
      · split
        · rename_i h0
          obtain ⟨z0, z1⟩ := repE_range h0 h.len
          exact h.report (rep_ok ok [] x.1).t0 z0 z1 o.now
        · exact h
      · split
        · split
          · exact h.giveUp _
          · exact h
        · exact h
end Go.Proofs.Ytmliokbonkndaaa
