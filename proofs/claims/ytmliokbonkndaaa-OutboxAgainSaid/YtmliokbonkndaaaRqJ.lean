/-
  The document's box: a report comes, whole.
-/
import Derived.Test.YtmliokbonkndaaaRqI
namespace Go.Proofs.Ytmliokbonkndaaa
open Go Go.Sh
theorem aV_succ (j : Nat) (F : Nat → R52) : aV (j + 1) F = aV j F ++ (F j).l := by
  unfold aV
  rw [List.range_succ, List.map_append, List.flatMap_append]
  simp
theorem rd_tail {w : World} {a : Option Addr} {xs : List Value} {c f k : Nat} (hr : Rd w a xs) (hc : c = f → xs.drop k = []) (hk : k = f * 14) : Rd w (if c = f then a else a.map (·.add (f * 14))) (xs.drop k) := by
  by_cases h : c = f
  · rw [if_pos h, hc h]; exact Rd.nil _ _
  · rw [if_neg h]
    intro j u hj
    rw [List.getElem?_drop] at hj
    obtain ⟨ad, e, h⟩ := hr (k + j) u hj
    refine ⟨ad.add (f * 14), by rw [e]; rfl, ?_⟩
    rw [add_add, ← hk]
    exact h
theorem rows_one (ds : List Dt) : ∀ u ∈ ds.flatMap recV, u.oneCell' = true := by
  intro u hu
  obtain ⟨d, _, hd⟩ := List.mem_flatMap.1 hu
  exact rec_one d.1 d.2.1 d.2.2 u hd
theorem recV_drop (ds : List Dt) (f : Nat) : (ds.drop f).flatMap recV = (ds.flatMap recV).drop (f * 14) := (flat_drop (m := 14) recV_length ds f).symm
section
variable {W w : World} {L M : List HP} {rb b4 b6 b8 : Nat} {n cum now : Int} {a : Option Addr} {c : Nat} {ds D : List Dt} {d d' : Dt} {j m N p : Nat} {s : R30} {r : Rp} {oa : Option Addr} {oc : Nat} {fr rn : Int} {na : Option Addr} {nc : Nat} {nw : Nat → Bool} {F : Nat → R52} {ad : Addr}
theorem c44_10 {K0 : Value → Value → Value → Value → World → Prop} (hN : n = (N : Int)) (hN8 : N ≤ 8) (hl : ds.length ≤ 1048576) (hk : ChOk W s r) (ht : ∀ e ∈ fsts ds, 0 ≤ e.tsn ∧ e.tsn < 4294967296)
    (hK : ∀ w' oa oc, Hs W (pt b8 (.cells (R47.mk oa N oc 0 0).c 48 (0, 0)) :: slP 53 4 oa N oc (aV N (ackOut now (tellN r (fsts ds)) (fsts ds))) :: pt b4 (.cells s.c 31 (0, 0)) :: pt b6 (.cells R47.z.c 48 (0, 0)) :: (refL rb n cum a c ds ++ L)) w' →
      K0 (.pointer (some ⟨rb, 0, none⟩)) (.pointer (some ⟨b4, 0, none⟩)) (.pointer (some ⟨b6, 0, none⟩)) (.pointer (some ⟨b8, 0, none⟩)) w') :
    ∀ (i j : Nat) (w : World) (k : Nat) (oa : Option Addr) (oc : Nat), j + i = N → Hs W (pt b8 (.cells (R47.mk oa j oc 0 0).c 48 (0, 0)) :: slP 53 4 oa j oc (aV j (ackOut now (tellN r (fsts ds)) (fsts ds))) :: pt b4 (.cells s.c 31 (0, 0)) :: pt b6 (.cells R47.z.c 48 (0, 0)) :: (refL rb n cum a c ds ++ L)) w → i < k →
      F44_10 K0 k (.pointer (some ⟨rb, 0, none⟩)) (.int .i64 now) (.pointer (some ⟨b4, 0, none⟩)) (.pointer (some ⟨b6, 0, none⟩)) (.pointer (some ⟨b8, 0, none⟩)) (.int .i64 (j : Int)) w := by
  intro i
  induction i with
  | zero =>
    intro j w k oa oc hj h hkk
    obtain ⟨k, rfl⟩ : ∃ j, k = j + 1 := ⟨k - 1, by omega⟩
    show F44_10B _ _ _ _ _ _ _ _ _
    unfold F44_10B
    simp only [rdP_mk, rdI_mk, rdA_mk, nn_some, add_mk]
    refine h.ldI 4 rfl rfl ?_
    rw [br_dec]
    have e3 : j = N := by omega
    subst e3
    exact ⟨fun h => by exfalso; have h : (j : Int) < n := h; omega, fun _ => hK w oa oc h⟩
  | succ i ih =>
    intro j w k oa oc hj h hkk
    obtain ⟨k, rfl⟩ : ∃ j, k = j + 1 := ⟨k - 1, by omega⟩
    show F44_10B _ _ _ _ _ _ _ _ _
    unfold F44_10B
    simp only [rdP_mk, rdI_mk, rdA_mk, nn_some, add_mk]
    refine h.ldI 4 rfl rfl ?_
    rw [br_dec]
    refine ⟨fun _ => ?_, fun h => by exfalso; have h : ¬ (j : Int) < n := h; omega⟩
    refine h.drw fun w1 h1 => ⟨w1, Pres.of_Same (Fr.refl _), ?_⟩
    refine h1.ldC 0 rfl rfl ?_
    refine ldR30_of (s := s) (h1.atL 2 rfl) ?_
    refine cl (c71 (ref_rqX (X := [_, _, _, _]) h1) hl (hk.same h1.old) ht j now) ?_
    rintro _ w2 ⟨rfl, s2⟩
    refine exR52_of (ackOut now (tellN r (fsts ds)) (fsts ds) j) ⟨rfl, Pres.of_Same s2, ?_⟩
    have h2 := h1.same s2
    refine alcS h2 fun b16 w3 s3 h3 => ⟨Pres.of_Same (s2.trans s3 fun _ _ x => x), ?_⟩
    obtain ⟨x, hx⟩ : ∃ x, x = ackOut now (tellN r (fsts ds)) (fsts ds) j := ⟨_, rfl⟩
    rw [← hx] at h3
    refine h3.append E46 2 rfl (b := ⟨b16, 0, none⟩) (m := 1) (news := x.l) rfl (fun q u hq => ⟨_, rfl, ?_⟩) (by intro u hu; simp [R52.l] at hu; rcases hu with rfl | rfl | rfl | rfl <;> rfl) (by omega) (by omega) fun a2 c2 w4 h4 _ => ?_
    · rw [add_mk, Nat.zero_add, cell_at (h3.at 0 rfl)]
      have : x.c.toList[q]? = some u := hq
      simpa using this
    refine h4.stc 1 rfl (by simp [R47.c]) fun w5 h5 => ?_
    have e1 : IntKind.wrap .i64 ((j : Int) + 1) = ((j + 1 : Nat) : Int) := by rw [wrap_i64 (by omega) (by omega)]; omega
    rw [e1]
    refine ih (j + 1) w5 k a2 c2 (by omega) ?_ (by omega)
    rw [aV_succ, ← hx]
    have h5 : Hs W (pt b16 (.cells x.c 53 (0, 0)) :: pt b8 (.cells (R47.mk a2 (j + 1) c2 0 0).c 48 (0, 0)) :: slP 53 4 a2 (j + 1) c2 (aV j (ackOut now (tellN r (fsts ds)) (fsts ds)) ++ x.l) :: pt b4 (.cells s.c 31 (0, 0)) :: pt b6 (.cells R47.z.c 48 (0, 0)) :: (refL rb n cum a c ds ++ L)) w5 := h5
    exact h5.drop
def rL1 (r : Rp) (l : List En) : List En := turnL (tellI r l) (goodI r l) (tellN r l) l
def rL2 (r : Rp) (l : List En) : List En := (rL1 r l).mapIdx (qF (tellN r l) (rL1 r l))
def rSums (r : Rp) (l : List En) : Int × Int := tsum (tellI r l) (goodI r l) (tellN r l) l l.length
def rPaths (r : Rp) (now : Int) (l : List En) : Nat → R52 := fwdF (tellN r l) (rL1 r l) (ackOut now (tellN r l) l) l.length
theorem turn_path (f1 f2 f3 : Bool) (e : En) : (turnF f1 f2 f3 e).path = e.path := by
  unfold turnF
  cases f1 <;> cases f2 <;> cases f3 <;> by_cases h : e.st = 3 <;> simp [h, En.mk']
theorem rL1_path (hp : ∀ e ∈ fsts ds, 0 ≤ e.path ∧ e.path < (N : Int)) : ∀ e ∈ rL1 r (fsts ds), 0 ≤ e.path ∧ e.path < (N : Int) := by
  intro e he
  obtain ⟨k, hk⟩ := List.getElem?_of_mem he
  unfold rL1 turnL at hk
  rw [List.getElem?_mapIdx] at hk
  cases h : (fsts ds)[k]? with
  | none => rw [h] at hk; cases hk
  | some x =>
    rw [h] at hk
    have hk := Option.some.inj hk
    rw [← hk, turn_path]
    exact hp x (List.mem_of_getElem? h)
set_option maxHeartbeats 1000000 in
theorem c44_11 {Kr : Value → Value → World → Prop} (hN : n = (N : Int)) (hN8 : 0 < N ∧ N ≤ 8) (hl : ds.length ≤ 1048576) (hk : ChOk W s r) (ht : ∀ e ∈ fsts ds, 0 ≤ e.tsn ∧ e.tsn < 4294967296) (hpath : ∀ e ∈ fsts ds, 0 ≤ e.path ∧ e.path < (N : Int)) (hc : 0 ≤ cum ∧ cum < 4294967296) {f : Nat} (hf : sd cum r.tsn = (f : Int)) (hfl : f ≤ ds.length)
    (h : Hs W (pt b4 (.cells s.c 31 (0, 0)) :: pt b6 (.cells R47.z.c 48 (0, 0)) :: (refL rb n cum a c ds ++ L)) w)
    (hK : ∀ w' oa oc a' c' ds', fsts ds' = (rL2 r (fsts ds)).drop f → Hs W (pt b6 (.cells (R47.mk oa N oc (rSums r (fsts ds)).1 (rSums r (fsts ds)).2).c 48 (0, 0)) :: slP 53 4 oa N oc (aV N (rPaths r now (fsts ds))) :: (refL rb n r.tsn a' c' ds' ++ L)) w' → Kr (.pointer (some ⟨b6, 0, none⟩)) (.int .i64 0) w') :
    F44_11 Kr (.pointer (some ⟨rb, 0, none⟩)) (.int .i64 now) (.pointer (some ⟨b4, 0, none⟩)) (.pointer (some ⟨b6, 0, none⟩)) w := by
  unfold F44_11
  simp only [rdP_mk, rdI_mk, rdA_mk]
  refine h.alc fun b8 w1 h1 => h1.stcL 0 rfl rfl fun w2 h2 => ?_
  have h2 : Hs W (pt b8 (.cells (R47.mk none 0 0 0 0).c 48 (0, 0)) :: pt b4 (.cells s.c 31 (0, 0)) :: pt b6 (.cells R47.z.c 48 (0, 0)) :: (refL rb n cum a c ds ++ L)) w2 := h2
  have h3 := (h2.nil 53 4).perm (List.Perm.swap _ _ _)
  refine ⟨N + 1, c44_10 hN hN8.2 hl hk ht (fun w3 oa oc h4 => ?_) N 0 w2 _ none 0 (by omega) h3 (by omega)⟩
  intro _g
  simp only [rdP_mk, rdA_mk, nn_some, add_mk]
  refine h4.ldC 4 rfl rfl ?_
  show ∃ l17a l17n l17c, ∃ w18, Sem.run Try.prog (Instr.makeSlice 24 (.int .i64 ((ds.length : Nat) : Int)) (.int .i64 ((ds.length : Nat) : Int))) w3 = _ ∧ _
  refine h4.make E24 (by omega) (by omega) (by omega) fun na w4 h5 hs => ?_
  rw [zerosB] at h5
  have h5 : Hs W ([slP 4 1 na ds.length ds.length (bV ds.length fun _ => false), pt b8 (.cells (R47.mk oa N oc 0 0).c 48 (0, 0)), slP 53 4 oa N oc (aV N (ackOut now (tellN r (fsts ds)) (fsts ds))), pt b4 (.cells s.c 31 (0, 0)), pt b6 (.cells R47.z.c 48 (0, 0))] ++ (refL rb n cum a c ds ++ L)) w4 := h5
  have h6 : Hs W (PX b4 b6 b8 s oa N oc 0 0 na ds.length ds.length (fun _ => false) (ackOut now (tellN r (fsts ds)) (fsts ds)) ++ (refL rb n cum a c ds ++ L)) w4 := Hs.re (n := 5) h5 rfl (is := [1, 0, 2, 3, 4]) (by decide)
  have h7 := Hs.flip.1 h6
  clear h h1 h2 h3 h4 h5 h6
  obtain ⟨od, rfl⟩ := ((Hs.flip.1 h7).rd 2 rfl).some (by rw [aV_length]; omega)
  have e0 : hD (fun k => decide (k < 0)) (tF r (fsts ds)) ds = ds := (hD_congr (P' := fun _ => false) fun i _ => by simp).trans (hD_none _ _)
  have b0 : bV ds.length (fun k => decide (k < 0) && tellN r (fsts ds) k) = bV ds.length fun _ => false := bV_congr fun k _ => by simp
  have h8 : Hs W (refL rb n cum a c (hD (fun k => decide (k < 0)) (tF r (fsts ds)) ds) ++ (PX b4 b6 b8 s (some od) N oc (tsum (tellI r (fsts ds)) (goodI r (fsts ds)) (tellN r (fsts ds)) (fsts ds) 0).1 (tsum (tellI r (fsts ds)) (goodI r (fsts ds)) (tellN r (fsts ds)) (fsts ds) 0).2 na ds.length ds.length (fun k => decide (k < 0) && tellN r (fsts ds) k) (ackOut now (tellN r (fsts ds)) (fsts ds)) ++ L)) w4 := by
    refine h7.cast ?_
    unfold PX
    rw [e0, b0]
    rfl
  refine ⟨ds.length + 1, c44_9 hl hk ht rfl (fun w5 h9 => ?_) ds.length 0 w4 _ (by omega) h8 (by omega)⟩
  intro _g2
  simp only [rdP_mk, rdA_mk, rdC_mk]
  obtain ⟨D1, hD1⟩ : ∃ D1, D1 = hD (fun _ => true) (tF r (fsts ds)) ds := ⟨_, rfl⟩
  have hl1 : D1.length = ds.length := by rw [hD1, hD_length]
  have hf1 : fsts D1 = rL1 r (fsts ds) := by rw [hD1, hD_all]; rfl
  rw [← hD1] at h9
  have e1 : hD (fun k => decide (k < 0)) (qF (tellN r (fsts ds)) (fsts D1)) D1 = D1 := (hD_congr (P' := fun _ => false) fun i _ => by simp).trans (hD_none _ _)
  have hlen : (fsts ds).length = ds.length := fsts_length ds
  have hsm : tsum (tellI r (fsts ds)) (goodI r (fsts ds)) (tellN r (fsts ds)) (fsts ds) ds.length = rSums r (fsts ds) := by unfold rSums; rw [hlen]
  rw [hsm] at h9
  refine ⟨ds.length + 1, c44_8 (ds := D1) (m := ds.length) (nw := tellN r (fsts ds)) (F := ackOut now (tellN r (fsts ds)) (fsts ds)) (by omega) hl1.symm (by rw [hf1]; exact rL1_path hpath) (fun w6 h10 => ?_) ds.length 0 w5 _ (by omega) (by rw [e1]; exact h9) (by omega)⟩
  intro _g3
  simp only [rdP_mk, rdA_mk, nn_some, add_mk]
  obtain ⟨D2, hD2⟩ : ∃ D2, D2 = hD (fun _ => true) (qF (tellN r (fsts ds)) (fsts D1)) D1 := ⟨_, rfl⟩
  have hl2 : D2.length = ds.length := by rw [hD2, hD_length, hl1]
  have hf2 : fsts D2 = rL2 r (fsts ds) := by rw [hD2, hD_all, hf1]; rfl
  have hp2 : fwdF (tellN r (fsts ds)) (fsts D1) (ackOut now (tellN r (fsts ds)) (fsts ds)) ds.length = rPaths r now (fsts ds) := by unfold rPaths; rw [hf1, hlen]
  rw [← hD2, hp2] at h10
  clear h7 h8 h9
  -- what is done for good goes
  refine h10.drw fun w7 h11 => ?_
  have g11 : Hs W (PX b4 b6 b8 s (some od) N oc (rSums r (fsts ds)).1 (rSums r (fsts ds)).2 na ds.length ds.length (tellN r (fsts ds)) (rPaths r now (fsts ds)) ++ (refL rb n cum a c D2 ++ L)) w7 := Hs.flip.1 h11
  refine g11.ldI 5 rfl rfl (g11.ldI 3 rfl rfl ?_)
  show Calls Try.prog 76 #[.int .u32 cum, .int .u32 s.f2] w7 _
  rw [hk.tsn]
  refine clr (s76 _ _ w7 hc.1 hc.2 hk.t0.1 hk.t0.2) ⟨_, rfl, ?_⟩
  rw [hf]
  have hb0 : ∀ w : World, Sem.run Try.prog (Instr.buildSlice 54 0 #[]) w = .ok (.slice (some ⟨w.heap.size, 0, none⟩) 0 0) (w.alloc (.cells #[] 58)) := fun w => by kernel_rfl
  refine ⟨_, _, _, _, hb0 w7, ?_⟩
  have h12 := h11.void 58 14
  generalize w7.alloc (.cells #[] 58) = w8 at h12 ⊢
  refine h12.ldC 1 rfl rfl ?_
  show slS 14 a D2.length c (some (.int .i64 (f : Int))) none _
  rw [hl2]
  refine ⟨⟨by omega, by omega⟩, ?_⟩
  rw [Int.toNat_natCast]
  have hrow : Rd w8 a (D2.flatMap recV) := h12.rd 2 rfl
  have hnil : a = none → c = 0 := own_nilc (h12.own 2 rfl)
  have hlc : D2.length ≤ c := (h12.own 2 rfl).le
  refine h12.appendA E54 0 rfl (m := ds.length - f) (news := (D2.flatMap recV).drop (f * 14)) (by rw [List.length_drop, recV_flat, hl2, Nat.sub_mul]) (rd_tail hrow (fun h => by rw [List.drop_eq_nil_of_le (by rw [recV_flat]; omega)]) rfl) (fun h => ?_) (fun u hu => rows_one D2 u (List.mem_of_mem_drop hu)) (by omega) (by omega) fun a2 c2 w9 h13 _ => ?_
  · by_cases hcf : c = f
    · omega
    · rw [if_neg hcf] at h
      cases ha : a with
      | none => rw [hnil ha]; omega
      | some x => rw [ha] at h; cases h
  rw [List.nil_append] at h13
  simp only [Nat.zero_add] at h13 ⊢
  have hcut : (D2.drop f).flatMap recV = (D2.flatMap recV).drop (f * 14) := recV_drop D2 f
  have hcl : (D2.drop f).length = ds.length - f := by rw [List.length_drop, hl2]
  rw [← hcut, ← hcl] at h13
  refine h13.stc 1 rfl (by simp [R78.c]) fun w10 h14 => ?_
  have h14 : Hs W ((slP 58 14 a2 (D2.drop f).length c2 ((D2.drop f).flatMap recV) :: pt rb (.cells (R78.mk n cum a2 (D2.drop f).length c2).c 107 (0, 0)) :: outL a c D2) ++ (PX b4 b6 b8 s (some od) N oc (rSums r (fsts ds)).1 (rSums r (fsts ds)).2 na ds.length ds.length (tellN r (fsts ds)) (rPaths r now (fsts ds)) ++ L)) w10 := by
    refine h14.cast ?_
    rw [hcl]
    rfl
  have g14 := Hs.flip.1 h14
  refine g14.ldI 3 rfl rfl ?_
  show stc _ (.int .u32 s.f2) w10 _
  rw [hk.tsn]
  refine g14.stc 6 rfl (by simp [R78.c]) fun w11 g15 => ?_
  have g15 : Hs W (PX b4 b6 b8 s (some od) N oc (rSums r (fsts ds)).1 (rSums r (fsts ds)).2 na ds.length ds.length (tellN r (fsts ds)) (rPaths r now (fsts ds)) ++ ((slP 58 14 a2 (D2.drop f).length c2 ((D2.drop f).flatMap recV) :: pt rb (.cells (R78.mk n r.tsn a2 (D2.drop f).length c2).c 107 (0, 0)) :: outL a c D2) ++ L)) w11 := g15
  refine ldR47_of (s := R47.mk (some od) N oc (rSums r (fsts ds)).1 (rSums r (fsts ds)).2) (g15.atL 0 rfl) ?_
  refine g15.stcL 4 rfl rfl fun w12 g16 => ?_
  have g16 : Hs W (pt b8 (.cells (R47.mk (some od) N oc (rSums r (fsts ds)).1 (rSums r (fsts ds)).2).c 48 (0, 0)) :: slP 4 1 na ds.length ds.length (bV ds.length (tellN r (fsts ds))) :: slP 53 4 (some od) N oc (aV N (rPaths r now (fsts ds))) :: pt b4 (.cells s.c 31 (0, 0)) :: pt b6 (.cells (R47.mk (some od) N oc (rSums r (fsts ds)).1 (rSums r (fsts ds)).2).c 48 (0, 0)) :: slP 58 14 a2 (D2.drop f).length c2 ((D2.drop f).flatMap recV) :: pt rb (.cells (R78.mk n r.tsn a2 (D2.drop f).length c2).c 107 (0, 0)) :: slP 58 14 a D2.length c (D2.flatMap recV) :: (D2.map datP ++ L)) w12 := g16
  refine hK w12 (some od) oc a2 c2 (D2.drop f) (by rw [← hf2]; unfold fsts; rw [List.map_drop]) ?_
  have g17 : Hs W ([slP 53 4 (some od) N oc (aV N (rPaths r now (fsts ds))), pt b6 (.cells (R47.mk (some od) N oc (rSums r (fsts ds)).1 (rSums r (fsts ds)).2).c 48 (0, 0)), slP 58 14 a2 (D2.drop f).length c2 ((D2.drop f).flatMap recV), pt rb (.cells (R78.mk n r.tsn a2 (D2.drop f).length c2).c 107 (0, 0))] ++ (D2.map datP ++ L)) w12 := ((g16.drop.drop).erase 1).erase 4
  have g18 : Hs W ([pt b6 (.cells (R47.mk (some od) N oc (rSums r (fsts ds)).1 (rSums r (fsts ds)).2).c 48 (0, 0)), slP 53 4 (some od) N oc (aV N (rPaths r now (fsts ds))), pt rb (.cells (R78.mk n r.tsn a2 (D2.drop f).length c2).c 107 (0, 0)), slP 58 14 a2 (D2.drop f).length c2 ((D2.drop f).flatMap recV)] ++ (D2.map datP ++ L)) w12 := Hs.re (n := 4) g17 rfl (is := [1, 0, 3, 2]) (by decide)
  have e9 : D2.map datP = (D2.take f).map datP ++ (D2.drop f).map datP := by rw [← List.map_append, List.take_append_drop]
  rw [e9, List.append_assoc] at g18
  have g19 := Hs.dropL (Hs.flip.1 g18)
  exact g19
end
end Go.Proofs.Ytmliokbonkndaaa
