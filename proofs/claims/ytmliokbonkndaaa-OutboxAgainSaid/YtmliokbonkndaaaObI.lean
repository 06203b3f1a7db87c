/-
  What a right report tells of each kept chunk.
-/
import Derived.Test.YtmliokbonkndaaaObG
namespace Go.Proofs.Ytmliokbonkndaaa
open Go Go.Sh
/-- told of for good; told of; told of newly -/
def goodF (n0 : Int) (NR : List Gp) (k : Nat) : Bool := decide ((k : Int) < n0) || ins NR ((k : Int) + 1 - n0)
def toldF (n0 : Int) (NR G : List Gp) (k : Nat) : Bool := goodF n0 NR k || ins G ((k : Int) + 1 - n0)
def newF (f : Nat → Bool) (l : List En) (k : Nat) : Bool := f k && (match l[k]? with | some e => e.opn | none => false)
theorem zerosB (m : Nat) : (madeCells (Value.bool false).cells (m * 1)).toList = bV m fun _ => false := by
  apply List.ext_getElem?
  intro i
  by_cases hi : i < m
  · rw [bV_at hi]
    simp [madeCells, Value.cells, Nat.mod_one, hi]
  · rw [List.getElem?_eq_none (by simp [madeCells]; omega), List.getElem?_eq_none (by rw [bV_length]; omega)]
theorem Hs.dropL {W w : World} {L : List HP} : ∀ {X : List HP}, Hs W (X ++ L) w → Hs W L w
  | [], h => h
  | _ :: X, h => Hs.dropL (X := X) (Go.Sh.Hs.drop h)
/-- cells that whoever holds L can read -/
def RdL (W : World) (L : List HP) (a : Option Addr) (xs : List Value) : Prop := ∀ w, Hs W L w → Rd w a xs
theorem RdL.more {W : World} {L X : List HP} {a : Option Addr} {xs : List Value} (h : RdL W L a xs) : RdL W (X ++ L) a xs := fun w hw => h w (Hs.dropL hw)
theorem RdL.old {W : World} {L : List HP} {a : Option Addr} {xs : List Value} (h : Rd W a xs) : RdL W L a xs := fun _ hw => hw.rd_old h
section
variable {W w : World} {L M : List HP} {bb : Nat} {n cum : Int} {a la : Option Addr} {c lc : Nat} {es : List (Nat × En)} {b m : Nat} {e : En}
theorem box_rbX {X : List HP} (h : Hs W (X ++ (boxL bb n cum a c es ++ L)) w) : RB w bb n cum es := box_rb (Hs.flip.1 h)
theorem mkB {w8 : World} (h : Hs W L w) (hp : Same w8 w) (hm : m ≤ 1048576) {Q : Option Addr → Nat → Nat → World → Prop} (hk : ∀ a w', Same w8 w' → Hs W (slP 4 1 a m m (bV m fun _ => false) :: L) w' → Q a m m w') :
    ∃ la ln lc, ∃ w', Sem.run Try.prog (Instr.makeSlice 24 (.int .i64 (m : Int)) (.int .i64 (m : Int))) w = .ok (.slice la ln lc) w' ∧ (Pres w8 w' ∧ Q la ln lc w') := by
  refine h.make E24 (by omega) (by omega) (by omega) fun a w' h' hs => ?_
  rw [zerosB] at h'
  have s := hp.trans hs fun _ _ x => x
  exact ⟨Pres.of_Same s, hk a w' s h'⟩
theorem alcP {w8 : World} (h : Hs W L w) (hp : Same w8 w) {o : Obj} {Q : Nat → World → Prop} (hk : ∀ b w', Same w8 w' → Hs W (pt b o :: L) w' → Q b w') : alc o w fun b w' => Pres w8 w' ∧ Q b w' :=
  alcS h fun b w' s h' => ⟨Pres.of_Same (hp.trans s fun _ _ x => x), hk b w' (hp.trans s fun _ _ x => x) h'⟩
def newsL (b21 : Nat) (ta : Option Addr) (tc : Nat) (ga : Option Addr) (gc : Nat) (na : Option Addr) (nc m : Nat) (f1 f2 f3 : Nat → Bool) : List HP :=
  [pt b21 (.cells (R95.mk ta m tc ga m gc na m nc).c 96 (0, 0)), slP 4 1 ta m tc (bV m f1), slP 4 1 ga m gc (bV m f2), slP 4 1 na m nc (bV m f3)]
theorem c33_2 {b21 b4 b6 : Nat} {s2 : R30} {ta : Option Addr} {tc : Nat} {ga : Option Addr} {gc : Nat} {na : Option Addr} {nc : Nat} {f1 f3 : Nat → Bool} {nra : Option Addr} {nrn nrc : Nat} {n0 : Int} (hn : 0 ≤ n0 ∧ n0 ≤ (m : Int)) (hm : m ≤ 1048576)
    {K0 : Value → Value → Value → Value → Value → World → Prop} :
    ∀ (i j : Nat) (f2 : Nat → Bool) (w : World) (k : Nat), (j : Int) + i = n0 → Hs W (newsL b21 ta tc ga gc na nc m f1 f2 f3 ++ (pt b4 (.cells s2.c 31 (0, 0)) :: pt b6 (.cells R95.z.c 96 (0, 0)) :: L)) w → i < k →
      (∀ w', Hs W (newsL b21 ta tc ga gc na nc m f1 (fun k => decide ((j : Int) ≤ k ∧ (k : Int) < n0) || f2 k) f3 ++ (pt b4 (.cells s2.c 31 (0, 0)) :: pt b6 (.cells R95.z.c 96 (0, 0)) :: L)) w' →
        K0 (.pointer (some ⟨bb, 0, none⟩)) (.slice nra nrn nrc) (.pointer (some ⟨b4, 0, none⟩)) (.pointer (some ⟨b6, 0, none⟩)) (.pointer (some ⟨b21, 0, none⟩)) w') →
      F33_2 K0 k (.pointer (some ⟨bb, 0, none⟩)) (.slice nra nrn nrc) (.pointer (some ⟨b4, 0, none⟩)) (.pointer (some ⟨b6, 0, none⟩)) (.pointer (some ⟨b21, 0, none⟩)) (.int .i64 n0) (.int .i64 (j : Int)) w := by
  intro i
  induction i with
  | zero =>
    intro j f2 w k hj h hk hK
    obtain ⟨k, rfl⟩ : ∃ j, k = j + 1 := ⟨k - 1, by omega⟩
    show F33_2B _ _ _ _ _ _ _ _ _ _
    unfold F33_2B
    simp only [rdC_mk, rdI_mk, rdP_mk, rdA_mk, br_dec]
    refine ⟨fun hle => by exfalso; omega, fun _ => hK w ?_⟩
    refine h.cast ?_
    unfold newsL
    rw [bV_congr (m := m) (f := fun k => decide ((j : Int) ≤ k ∧ (k : Int) < n0) || f2 k) (g := f2) fun k _ => by rw [show decide ((j : Int) ≤ k ∧ (k : Int) < n0) = false by simp; omega, Bool.false_or]]
  | succ i ih =>
    intro j f2 w k hj h hk hK
    obtain ⟨k, rfl⟩ : ∃ j, k = j + 1 := ⟨k - 1, by omega⟩
    show F33_2B _ _ _ _ _ _ _ _ _ _
    unfold F33_2B
    simp only [rdC_mk, rdI_mk, rdP_mk, rdA_mk, br_dec, add_mk]
    refine ⟨fun hle => ?_, fun h => by exfalso; omega⟩
    refine h.ldC 0 rfl rfl ?_
    have hr := h.rd 2 rfl
    obtain ⟨ad, rfl⟩ := hr.some (by rw [bV_length]; omega)
    refine ixS_of (by omega) (by show (j : Int) < (m : Int); omega) ?_
    rw [Int.toNat_natCast, Nat.mul_one]
    refine h.put 2 rfl (by rw [bV_length]; omega) fun w2 h2 => ?_
    rw [bV_set (by omega)] at h2
    have e1 : IntKind.wrap .i64 ((j : Int) + 1) = ((j + 1 : Nat) : Int) := by rw [wrap_i64 (by omega) (by omega)]; omega
    rw [e1]
    refine ih (j + 1) _ w2 k (by omega) h2 (by omega) fun w3 h3 => hK w3 ?_
    refine h3.cast ?_
    unfold newsL
    congr 5
    refine bV_congr fun k _ => ?_
    by_cases hkj : k = j
    · subst hkj
      rw [if_pos rfl, Bool.or_true, show decide ((k : Int) ≤ k ∧ (k : Int) < n0) = true by simp; omega, Bool.true_or]
    · rw [if_neg hkj]
      congr 1
      rw [decide_eq_decide]
      omega
theorem c33_1 {b21 b6 : Nat} {ta : Option Addr} {tc : Nat} {ga : Option Addr} {gc : Nat} {na : Option Addr} {nc : Nat} {f1 f2 : Nat → Bool} {Z : List HP} (hm : es.length ≤ 1048576)
    {K2 : Value → Value → World → Prop} :
    ∀ (i j : Nat) (f3 : Nat → Bool) (w : World) (k : Nat), j + i = es.length → Hs W (newsL b21 ta tc ga gc na nc es.length f1 f2 f3 ++ (Z ++ (boxL bb n cum a c es ++ L))) w → i < k →
      (∀ w', Hs W (newsL b21 ta tc ga gc na nc es.length f1 f2 (fun k => if k < j then f3 k else newF f1 (dats es) k) ++ (Z ++ (boxL bb n cum a c es ++ L))) w' → K2 (.pointer (some ⟨b6, 0, none⟩)) (.pointer (some ⟨b21, 0, none⟩)) w') →
      F33_1 K2 k (.pointer (some ⟨b6, 0, none⟩)) (.pointer (some ⟨b21, 0, none⟩)) (.slice a es.length c) (.int .i64 (es.length : Int)) (.int .i64 (j : Int)) w := by
  intro i
  induction i with
  | zero =>
    intro j f3 w k hj h hk hK
    obtain ⟨k, rfl⟩ : ∃ j, k = j + 1 := ⟨k - 1, by omega⟩
    show F33_1B _ _ _ _ _ _ _ _
    unfold F33_1B
    simp only [rdC_mk, rdI_mk, rdA_mk, br_dec]
    refine ⟨fun hle => by exfalso; omega, fun _ => hK w ?_⟩
    refine h.cast ?_
    unfold newsL
    rw [bV_congr (m := es.length) (f := fun k => if k < j then f3 k else newF f1 (dats es) k) (g := f3) fun k hk => if_pos (by omega)]
  | succ i ih =>
    intro j f3 w k hj h hk hK
    obtain ⟨k, rfl⟩ : ∃ j, k = j + 1 := ⟨k - 1, by omega⟩
    show F33_1B _ _ _ _ _ _ _ _
    unfold F33_1B
    simp only [rdC_mk, rdI_mk, rdA_mk, br_dec, add_mk]
    refine ⟨fun hle => ?_, fun h => by exfalso; omega⟩
    obtain ⟨p, hp⟩ : ∃ p, es[j]? = some p := ⟨es[j]'(by omega), by simp⟩
    have hb := box_rbX (X := newsL b21 ta tc ga gc na nc es.length f1 f2 f3 ++ Z) (L := L) (by rw [List.append_assoc]; exact h)
    have hrp : Rd w a (ptrV es) := by
      have h2 : Hs W (boxL bb n cum a c es ++ ((newsL b21 ta tc ga gc na nc es.length f1 f2 f3 ++ Z) ++ L)) w := Hs.flip.1 (by rw [List.append_assoc]; exact h)
      exact h2.rdO 1 rfl
    obtain ⟨ad, had⟩ := hrp.some (by rw [ptrV_length]; omega)
    subst had
    refine ixS_of (by omega) (by omega) ?_
    rw [Int.toNat_natCast, Nat.mul_one]
    refine ldP_c (hrp.at (ptrV_at hp)) ?_
    have hre := hb.ent p (List.mem_of_getElem? hp)
    unfold drw
    have s1 : Same w w.drew := (Fr.refl w).drew
    have h1 := h.same s1
    have hre1 := hre.same s1
    generalize w.drew = w1 at s1 h1 hre1 ⊢
    refine ⟨w1, Pres.refl _, ?_⟩
    refine h1.ldC 0 rfl rfl (h1.ldC 0 rfl rfl ?_)
    have hrt := h1.rd 1 rfl
    have hrn := h1.rd 3 rfl
    obtain ⟨td, htd⟩ := hrt.some (by rw [bV_length]; omega)
    obtain ⟨nd, hnd⟩ := hrn.some (by rw [bV_length]; omega)
    subst htd; subst hnd
    refine ixS_of (by omega) (by omega) ?_
    rw [Int.toNat_natCast, Nat.mul_one]
    refine ldB_c (hrt.at (bV_at (by omega))) ?_
    have e1 : IntKind.wrap .i64 ((j : Int) + 1) = ((j + 1 : Nat) : Int) := by rw [wrap_i64 (by omega) (by omega)]; omega
    rw [e1]
    have hpe : (dats es)[j]? = some p.2 := by simp [dats, hp]
    have next : ∀ (w2 : World) (b : Bool), b = newF f1 (dats es) j → Hs W (newsL b21 (some td) tc ga gc (some nd) nc es.length f1 f2 (fun k => if k = j then b else f3 k) ++ (Z ++ (boxL bb n cum (some ad) c es ++ L))) w2 →
        F33_1 K2 k (.pointer (some ⟨b6, 0, none⟩)) (.pointer (some ⟨b21, 0, none⟩)) (.slice (some ad) es.length c) (.int .i64 (es.length : Int)) (.int .i64 ((j + 1 : Nat) : Int)) w2 := by
      intro w2 b hbv h2
      refine ih (j + 1) _ w2 k (by omega) h2 (by omega) fun w3 h3 => hK w3 ?_
      refine h3.cast ?_
      unfold newsL
      congr 6
      refine bV_congr fun k hk => ?_
      by_cases hkj : k = j
      · subst hkj
        rw [if_pos (by omega), if_pos rfl, if_neg (by omega), hbv]
      · by_cases hkl : k < j
        · rw [if_pos (by omega), if_neg hkj, if_pos hkl]
        · rw [if_neg (by omega), if_neg hkl]
    rw [br_iff]
    refine ⟨fun hb1 => ?_, fun hb1 => ?_⟩
    · refine clr (c59 hre1) ⟨_, rfl, Pres.refl _, ?_⟩
      refine ixS_of (by omega) (by omega) ?_
      rw [Int.toNat_natCast, Nat.mul_one]
      refine h1.put 3 rfl (by rw [bV_length]; omega) fun w2 h2 => ?_
      rw [bV_set (by omega)] at h2
      exact next w2 _ (by unfold newF; rw [hb1, Bool.true_and, hpe]) h2
    · refine ixS_of (by omega) (by omega) ?_
      rw [Int.toNat_natCast, Nat.mul_one]
      refine h1.put 3 rfl (by rw [bV_length]; omega) fun w2 h2 => ?_
      rw [bV_set (by omega)] at h2
      exact next w2 _ (by unfold newF; rw [hb1, Bool.false_and]) h2
theorem newsL_perm (_ : Nat) (_ : Option Addr) (_ : Nat) (_ : Option Addr) (_ : Nat) (_ : Option Addr) (_ _ : Nat) (_ _ _ : Nat → Bool) : True := trivial
theorem c33_3 {b21 b4 b6 : Nat} {s2 : R30} {ta : Option Addr} {tc : Nat} {ga : Option Addr} {gc : Nat} {na : Option Addr} {nc : Nat} {nra : Option Addr} {nrc : Nat} {NR G : List Gp} {n0 : Int} (hn0 : n0 = sd cum s2.f2) (hr0 : 0 ≤ n0 ∧ n0 ≤ (es.length : Int)) (hm : es.length ≤ 1048576)
    (hG : s2.f10n = G.length) (hgr : RdL W L s2.f10a (gapV G)) (hnr : RdL W L nra (gapV NR)) (hok : gOk G ∧ G.length ≤ 140737488355328) (hok2 : gOk NR ∧ NR.length ≤ 140737488355328)
    {Kr : Value → World → Prop}
    (h : Hs W (newsL b21 ta tc ga gc na nc es.length (fun _ => false) (fun _ => false) (fun _ => false) ++ (pt b4 (.cells s2.c 31 (0, 0)) :: pt b6 (.cells R95.z.c 96 (0, 0)) :: (boxL bb n cum a c es ++ L))) w)
    (hK : ∀ w', Hs W (newsL b21 ta tc ga gc na nc es.length (toldF n0 NR G) (goodF n0 NR) (newF (toldF n0 NR G) (dats es)) ++ (pt b4 (.cells s2.c 31 (0, 0)) :: pt b6 (.cells (R95.mk ta es.length tc ga es.length gc na es.length nc).c 96 (0, 0)) :: (boxL bb n cum a c es ++ L))) w' → Kr (.pointer (some ⟨b6, 0, none⟩)) w') :
    F33_3 Kr (.pointer (some ⟨bb, 0, none⟩)) (.slice nra NR.length nrc) (.pointer (some ⟨b4, 0, none⟩)) (.pointer (some ⟨b6, 0, none⟩)) (.pointer (some ⟨b21, 0, none⟩)) w := by
  unfold F33_3
  simp only [rdC_mk, rdP_mk, rdA_mk, nn_some, add_mk]
  refine h.drw fun w1 h1 => h1.ldI 6 rfl rfl (h1.ldI 4 rfl rfl ?_)
  refine clr (s37 _ _ w1) ⟨_, rfl, ?_⟩
  show ∃ k48 : Nat, _
  rw [show sd cum s2.f2 = n0 from hn0.symm]
  refine ⟨es.length + 1, c33_2 (m := es.length) hr0 hm n0.toNat 0 _ w1 _ (by omega) h1 (by omega) fun w2 h2 _g => ?_⟩
  simp only [rdC_mk, rdP_mk, rdA_mk, nn_some, add_mk]
  refine h2.ldI 4 rfl rfl (h2.ldC 0 rfl rfl ?_)
  -- good: the blocks for good
  refine h2.alc fun b23 w3 h3 => ?_
  have hb3 := box_rbX (X := pt b23 (.cells #[.slice nra NR.length nrc] 27 (0, 0)) :: (newsL b21 ta tc ga gc na nc es.length (fun _ => false) (fun k => decide (((0 : Nat) : Int) ≤ k ∧ (k : Int) < n0) || false) (fun _ => false) ++ [pt b4 (.cells s2.c 31 (0, 0)), pt b6 (.cells R95.z.c 96 (0, 0))])) (L := L) (by simpa using h3)
  have h3' := h3.focus (i := 3) rfl
  refine cl (c58 (Gs := [NR]) (hs := [(nra, nrc)]) (la := some ⟨b23, 0, none⟩) (lc := 1) hb3 hm h3' s2.f2 fun w' A h' => ?_) ?_
  · refine ⟨rfl, fun j u hj => ⟨_, rfl, ?_⟩, fun j x G' hx hG' => ?_, fun G' hG' => by simp at hG'; subst hG'; exact hok2, by simp⟩
    · rw [add_mk, Nat.zero_add, cell_at (h'.at 1 rfl)]
      simpa using hj
    · cases j with
      | zero => simp at hx hG'; subst hx; subst hG'; exact hnr _ (Hs.dropL (X := boxL bb n cum a c es) h'.drop.drop.drop.drop.drop.drop.drop)
      | succ j => simp at hx
  rintro _ w4 ⟨rfl, h4⟩
  refine ⟨rfl, ?_⟩
  rw [← hn0] at h4
  have h4 := (h4.unfocus (i := 3) (by simp [newsL])).drop
  have eg : (bV es.length fun k => (decide (((0 : Nat) : Int) ≤ (k : Int) ∧ (k : Int) < n0) || false) || [NR].any fun G => ins G ((k : Int) + 1 - n0)) = bV es.length (goodF n0 NR) := bV_congr fun k _ => by
    unfold goodF
    simp
  rw [eg] at h4
  have h4 : Hs W (newsL b21 ta tc ga gc na nc es.length (fun _ => false) (goodF n0 NR) (fun _ => false) ++ (pt b4 (.cells s2.c 31 (0, 0)) :: pt b6 (.cells R95.z.c 96 (0, 0)) :: (boxL bb n cum a c es ++ L))) w4 := h4
  clear h3 h3' h2 h1 h hb3 eg
  -- told: a copy, and the blocks
  refine h4.ldC 0 rfl rfl (h4.ldC 0 rfl rfl ?_)
  refine h4.copy1 1 rfl E24.ht (by kernel_rfl) (bV_length _ _) (h4.rd 2 rfl) (fun v hv => by obtain ⟨_, _, rfl⟩ := List.mem_map.1 hv; rfl) (Nat.le_refl _) fun w5 h5 => ?_
  rw [List.drop_eq_nil_of_le (by rw [bV_length]; exact Nat.le_refl _), List.append_nil] at h5
  have h5 : Hs W (newsL b21 ta tc ga gc na nc es.length (goodF n0 NR) (goodF n0 NR) (fun _ => false) ++ (pt b4 (.cells s2.c 31 (0, 0)) :: pt b6 (.cells R95.z.c 96 (0, 0)) :: (boxL bb n cum a c es ++ L))) w5 := h5
  refine h5.ldI 4 rfl rfl (h5.ldC 0 rfl rfl (h5.ldC 4 rfl rfl ?_))
  refine h5.alc fun b34 w6 h6 => ?_
  have hb6 := box_rbX (X := pt b34 (.cells #[.slice s2.f10a s2.f10n s2.f10c] 27 (0, 0)) :: (newsL b21 ta tc ga gc na nc es.length (goodF n0 NR) (goodF n0 NR) (fun _ => false) ++ [pt b4 (.cells s2.c 31 (0, 0)), pt b6 (.cells R95.z.c 96 (0, 0))])) (L := L) (by simpa using h6)
  have h6' := h6.focus (i := 2) rfl
  refine cl (c58 (Gs := [G]) (hs := [(s2.f10a, s2.f10c)]) (la := some ⟨b34, 0, none⟩) (lc := 1) hb6 hm h6' s2.f2 fun w' A h' => ?_) ?_
  · refine ⟨rfl, fun j u hj => ⟨_, rfl, ?_⟩, fun j x G' hx hG' => ?_, fun G' hG' => by simp at hG'; subst hG'; exact hok, by simp⟩
    · rw [add_mk, Nat.zero_add, cell_at (h'.at 1 rfl), hG]
      simpa using hj
    · cases j with
      | zero => simp at hx hG'; subst hx; subst hG'; exact hgr _ (Hs.dropL (X := boxL bb n cum a c es) h'.drop.drop.drop.drop.drop.drop.drop)
      | succ j => simp at hx
  rintro _ w7 ⟨rfl, h7⟩
  refine ⟨rfl, ?_⟩
  rw [← hn0] at h7
  have h7 := (h7.unfocus (i := 2) (by simp [newsL])).drop
  have et : (bV es.length fun k => goodF n0 NR k || [G].any fun G => ins G ((k : Int) + 1 - n0)) = bV es.length (toldF n0 NR G) := bV_congr fun k _ => by
    unfold toldF
    simp
  rw [et] at h7
  have h7 : Hs W (newsL b21 ta tc ga gc na nc es.length (toldF n0 NR G) (goodF n0 NR) (fun _ => false) ++ ([pt b4 (.cells s2.c 31 (0, 0)), pt b6 (.cells R95.z.c 96 (0, 0))] ++ (boxL bb n cum a c es ++ L))) w7 := h7
  clear h6 h6' h5 h4 hb6 et
  refine h7.ldC 6 rfl rfl ?_
  refine ⟨es.length + 1, c33_1 hm es.length 0 _ w7 _ (by omega) h7 (by omega) fun w8 h8 _g => ?_⟩
  simp only [rdA_mk]
  have h8 : Hs W (newsL b21 ta tc ga gc na nc es.length (toldF n0 NR G) (goodF n0 NR) (newF (toldF n0 NR G) (dats es)) ++ (pt b4 (.cells s2.c 31 (0, 0)) :: pt b6 (.cells R95.z.c 96 (0, 0)) :: (boxL bb n cum a c es ++ L))) w8 := by
    refine h8.cast ?_
    rw [show (fun k => if k < 0 then false else newF (toldF n0 NR G) (dats es) k) = newF (toldF n0 NR G) (dats es) from by funext k; rw [if_neg (by omega)]]
    rfl
  refine ldR95_of (s := R95.mk ta es.length tc ga es.length gc na es.length nc) (h8.atL 0 rfl) ?_
  refine h8.stcL 5 rfl rfl fun w9 h9 => hK w9 h9
end
end Go.Proofs.Ytmliokbonkndaaa
namespace Go.Proofs.Ytmliokbonkndaaa
open Go Go.Sh
theorem Hs.re {W w : World} {L X : List HP} {n : Nat} (h : Hs W (X ++ L) w) (hn : X.length = n) {is : List Nat} (hp : (List.range n).Perm is) : Hs W (is.map (fun i => X.getD i emp) ++ L) w := by
  refine h.perm (List.Perm.append_right L ?_)
  have e : (List.range n).map (fun i => X.getD i emp) = X := by
    apply List.ext_getElem
    · simp [hn]
    · intro i h1 h2
      simp [h2]
  have := hp.map (fun i => X.getD i emp)
  rwa [e] at this
section
variable {W w : World} {L M : List HP} {bb : Nat} {n cum : Int} {a la : Option Addr} {c lc : Nat} {es : List (Nat × En)} {b m : Nat} {e : En}
def ReadP (W : World) (L : List HP) (bb : Nat) (n cum : Int) (a : Option Addr) (c : Nat) (es : List (Nat × En)) (n0 : Int) (NR G : List Gp) (v : Value) (w' : World) : Prop :=
  ∃ ta tc ga gc na nc, v = (R95.mk ta es.length tc ga es.length gc na es.length nc).v ∧
      Hs W (slP 4 1 ta es.length tc (bV es.length (toldF n0 NR G)) :: slP 4 1 ga es.length gc (bV es.length (goodF n0 NR)) :: slP 4 1 na es.length nc (bV es.length (newF (toldF n0 NR G) (dats es))) :: (boxL bb n cum a c es ++ L)) w'
set_option maxHeartbeats 1000000 in
theorem c33 {s2 : R30} {nra : Option Addr} {nrc : Nat} {NR G : List Gp} {n0 : Int} (hn0 : n0 = sd cum s2.f2) (hr0 : 0 ≤ n0 ∧ n0 ≤ (es.length : Int)) (hm : es.length ≤ 1048576)
    (hG : s2.f10n = G.length) (hgr : RdL W L s2.f10a (gapV G)) (hnr : RdL W L nra (gapV NR)) (hok : gOk G ∧ G.length ≤ 140737488355328) (hok2 : gOk NR ∧ NR.length ≤ 140737488355328)
    (h : Hs W (boxL bb n cum a c es ++ L) w) :
    Calls Try.prog 33 #[.pointer (some ⟨bb, 0, none⟩), s2.v, .slice nra NR.length nrc] w (rt (ReadP W L bb n cum a c es n0 NR G)) := by
  refine F33_ok ?_
  unfold F33
  simp only [rdP_mk, rdC_mk]
  refine exR30_of s2 ⟨rfl, ?_⟩
  refine h.alc fun b4 w1 h1 => h1.alc fun b6 w2 h2 => h2.drw fun w8 h8 => ?_
  clear h1 h2
  simp only [nn_some, add_mk]
  have h8 : Hs W (pt b6 (.cells R95.z.c 96 (0, 0)) :: pt b4 (.cells s2.c 31 (0, 0)) :: (boxL bb n cum a c es ++ L)) w8 := h8
  refine h8.ldC 2 rfl rfl (h8.ldC 2 rfl rfl (h8.ldC 2 rfl rfl ?_))
  have leaf : ∀ {w9 : World} {b21 : Nat} {ta : Option Addr} {tc : Nat} {ga : Option Addr} {gc : Nat} {na : Option Addr} {nc : Nat},
      Hs W (pt b21 (.cells R95.z.c 96 (0, 0)) :: slP 4 1 ta es.length tc (bV es.length fun _ => false) :: slP 4 1 ga es.length gc (bV es.length fun _ => false) :: slP 4 1 na es.length nc (bV es.length fun _ => false) :: pt b6 (.cells R95.z.c 96 (0, 0)) :: pt b4 (.cells s2.c 31 (0, 0)) :: (boxL bb n cum a c es ++ L)) w9 →
      stcL ⟨b21, 0, none⟩ 0 (R95.mk ta es.length tc ga es.length gc na es.length nc).l w9 fun w23 => F33_3 (fun y6 w25 => ∀ _g : Tm, rdA y6 fun a27 => ldR95 a27 w25 fun s28 => ReadP W L bb n cum a c es n0 NR G s28.v w25) (.pointer (some ⟨bb, 0, none⟩)) (.slice nra NR.length nrc) (.pointer (some ⟨b4, 0, none⟩)) (.pointer (some ⟨b6, 0, none⟩)) (.pointer (some ⟨b21, 0, none⟩)) w23 := by
    intro w9 b21 ta tc ga gc na nc h9
    refine h9.stcL 0 rfl rfl fun w10 h10 => ?_
    have h10 : Hs W (newsL b21 ta tc ga gc na nc es.length (fun _ => false) (fun _ => false) (fun _ => false) ++ (pt b4 (.cells s2.c 31 (0, 0)) :: pt b6 (.cells R95.z.c 96 (0, 0)) :: (boxL bb n cum a c es ++ L))) w10 :=
      h10.perm (List.Perm.append_left [_, _, _, _] (List.Perm.swap _ _ _))
    refine c33_3 hn0 hr0 hm hG hgr hnr hok hok2 h10 fun w11 h11 _g => ?_
    simp only [rdA_mk]
    refine ldR95_of (s := R95.mk ta es.length tc ga es.length gc na es.length nc) (h11.atL 5 rfl) ⟨ta, tc, ga, gc, na, nc, rfl, ?_⟩
    exact ((h11.erase 5).erase 4).drop
  have mk : ∀ {w9 : World} {L' : List HP} (h9 : Hs W L' w9) (hp : Same w8 w9) {Q : Option Addr → Nat → Nat → World → Prop} (hk : ∀ a w', Same w8 w' → Hs W (slP 4 1 a es.length es.length (bV es.length fun _ => false) :: L') w' → Q a es.length es.length w'),
      ∃ la ln lc, ∃ w', Sem.run Try.prog (Instr.makeSlice 24 (.int .i64 (es.length : Int)) (.int .i64 (es.length : Int))) w9 = .ok (.slice la ln lc) w' ∧ (Pres w8 w' ∧ Q la ln lc w') := fun h9 hp _ hk => mkB h9 hp hm hk
  have hs8 : Same w8 w8 := Fr.refl w8
  have leaf' : ∀ {A B C D : HP} {w9 : World} {b21 : Nat} {ta : Option Addr} {ga : Option Addr} {na : Option Addr} {i0 i1 i2 i3 : Nat},
      Hs W (A :: B :: C :: D :: pt b6 (.cells R95.z.c 96 (0, 0)) :: pt b4 (.cells s2.c 31 (0, 0)) :: (boxL bb n cum a c es ++ L)) w9 →
      [A, B, C, D].getD i0 emp = pt b21 (.cells (R95.mk none 0 0 none 0 0 none 0 0).c 96 (0, 0)) → [A, B, C, D].getD i1 emp = slP 4 1 ta es.length es.length (bV es.length fun _ => false) → [A, B, C, D].getD i2 emp = slP 4 1 ga es.length es.length (bV es.length fun _ => false) → [A, B, C, D].getD i3 emp = slP 4 1 na es.length es.length (bV es.length fun _ => false) →
      (List.range 4).Perm [i0, i1, i2, i3] →
      stcL ⟨b21, 0, none⟩ 0 (R95.mk ta es.length es.length ga es.length es.length na es.length es.length).l w9 fun w23 => F33_3 (fun y6 w25 => ∀ _g : Tm, rdA y6 fun a27 => ldR95 a27 w25 fun s28 => ReadP W L bb n cum a c es n0 NR G s28.v w25) (.pointer (some ⟨bb, 0, none⟩)) (.slice nra NR.length nrc) (.pointer (some ⟨b4, 0, none⟩)) (.pointer (some ⟨b6, 0, none⟩)) (.pointer (some ⟨b21, 0, none⟩)) w23 := by
    intro A B C D w9 b21 ta ga na i0 i1 i2 i3 h9 e0 e1 e2 e3 hp
    have hh := Hs.re (X := [A, B, C, D]) (L := pt b6 (.cells R95.z.c 96 (0, 0)) :: pt b4 (.cells s2.c 31 (0, 0)) :: (boxL bb n cum a c es ++ L)) h9 rfl hp
    simp only [List.map_cons, List.map_nil, e0, e1, e2, e3, List.cons_append, List.nil_append] at hh
    exact leaf hh
  have g0 : ∀ {A B C D : HP}, [A, B, C, D].getD 0 emp = A := rfl
  have g1 : ∀ {A B C D : HP}, [A, B, C, D].getD 1 emp = B := rfl
  have g2 : ∀ {A B C D : HP}, [A, B, C, D].getD 2 emp = C := rfl
  have g3 : ∀ {A B C D : HP}, [A, B, C, D].getD 3 emp = D := rfl
  clear h
  have h := h8
  have s := hs8
  repeat' first
    | with_reducible refine And.intro ?_ ?_
    | refine mk h s fun a w' s h => ?_
    | refine alcP h s fun b w' s h => ?_
  all_goals
    refine leaf' (i0 := ?_) (i1 := ?_) (i2 := ?_) (i3 := ?_) h ?e0 ?e1 ?e2 ?e3 ?hp
    case e0 => first | with_reducible exact g0 | with_reducible exact g1 | with_reducible exact g2 | with_reducible exact g3
    case e1 => first | with_reducible exact g0 | with_reducible exact g1 | with_reducible exact g2 | with_reducible exact g3
    case e2 => first | with_reducible exact g0 | with_reducible exact g1 | with_reducible exact g2 | with_reducible exact g3
    case e3 => first | with_reducible exact g0 | with_reducible exact g1 | with_reducible exact g2 | with_reducible exact g3
    case hp => decide
end
end Go.Proofs.Ytmliokbonkndaaa
