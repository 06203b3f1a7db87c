/-
  What becomes of chunks of which a report tells.
-/
import Derived.Test.YtmliokbonkndaaaObJ
namespace Go.Proofs.Ytmliokbonkndaaa
open Go Go.Sh
/-! chunks that turn, each by its place -/
def hP (P : Nat → Bool) (f : Nat → En → En) (es : List (Nat × En)) : List (Nat × En) := es.mapIdx fun i p => if P i = true then (p.1, f i p.2) else p
theorem hP_get {P : Nat → Bool} {f : Nat → En → En} {es : List (Nat × En)} {i : Nat} (h : P i = false) : (hP P f es)[i]? = es[i]? := by
  unfold hP
  rw [List.getElem?_mapIdx]
  cases es[i]? with
  | none => rfl
  | some p => simp [h]
theorem hP_length (P : Nat → Bool) (f : Nat → En → En) (es : List (Nat × En)) : (hP P f es).length = es.length := by simp [hP]
theorem hP_set {P : Nat → Bool} {f : Nat → En → En} {es : List (Nat × En)} {i : Nat} {p : Nat × En} (h : es[i]? = some p) (_ : P i = false) : (hP P f es).set i (p.1, f i p.2) = hP (fun k => P k || decide (k = i)) f es := by
  have hlt := (List.getElem?_eq_some_iff.1 h).1
  apply List.ext_getElem?
  intro k
  rw [List.getElem?_set]
  unfold hP
  by_cases hk : i = k
  · subst hk
    rw [if_pos rfl, if_pos (by simpa using hlt), List.getElem?_mapIdx, h]
    simp
  · rw [if_neg hk, List.getElem?_mapIdx, List.getElem?_mapIdx]
    cases es[k]? with
    | none => rfl
    | some q => simp [show ¬ k = i from fun e => hk e.symm]
theorem hP_congr {P P' : Nat → Bool} {f : Nat → En → En} {es : List (Nat × En)} (h : ∀ i < es.length, P i = P' i) : hP P f es = hP P' f es := by
  unfold hP
  apply List.ext_getElem?
  intro k
  rw [List.getElem?_mapIdx, List.getElem?_mapIdx]
  cases hk : es[k]? with
  | none => rfl
  | some q => rw [Option.map_some, Option.map_some, h k (List.getElem?_eq_some_iff.1 hk).1]
theorem hP_none (f : Nat → En → En) (es : List (Nat × En)) : hP (fun _ => false) f es = es := by
  unfold hP
  apply List.ext_getElem?
  intro k
  rw [List.getElem?_mapIdx]
  cases es[k]? <;> simp
theorem hP_all (f : Nat → En → En) (es : List (Nat × En)) : dats (hP (fun _ => true) f es) = (dats es).mapIdx f := by
  unfold hP dats
  apply List.ext_getElem?
  intro k
  simp only [List.getElem?_map, List.getElem?_mapIdx, if_true]
  cases es[k]? <;> rfl
theorem hP_dats (P : Nat → Bool) (f : Nat → En → En) (es : List (Nat × En)) (k : Nat) : (dats (hP P f es))[k]? = (dats es)[k]?.map fun e => if P k = true then f k e else e := by
  unfold hP dats
  simp only [List.getElem?_map, List.getElem?_mapIdx]
  cases es[k]? with
  | none => rfl
  | some q =>
    simp only [Option.map_some]
    split <;> rfl
theorem hP_ptr (P : Nat → Bool) (f : Nat → En → En) (es : List (Nat × En)) : ptrV (hP P f es) = ptrV es := by
  unfold ptrV hP
  apply List.ext_getElem?
  intro k
  simp only [List.getElem?_map, List.getElem?_mapIdx]
  cases es[k]? with
  | none => rfl
  | some q =>
    simp only [Option.map_some]
    split <;> rfl
section
variable {W w : World} {L M X : List HP} {bb : Nat} {n cum : Int} {a la : Option Addr} {c lc : Nat} {es : List (Nat × En)} {b m : Nat} {e : En}
theorem box_turnX (h : Hs W (X ++ (boxL bb n cum a c es ++ L)) w) {i : Nat} {p : Nat × En} (hi : es[i]? = some p) : ∃ R, Hs W (entP p :: (X ++ R)) w ∧ (∀ X' e' w', Hs W (entP (p.1, e') :: (X' ++ R)) w' → Hs W (X' ++ (boxL bb n cum a c (es.set i (p.1, e')) ++ L)) w') := by
  have hlt := (List.getElem?_eq_some_iff.1 hi).1
  have h2 : ∀ Y : List HP, (boxL bb n cum a c es ++ Y)[i + 2]? = some (entP p) := fun Y => by
    rw [List.getElem?_append_left (by simp [boxL]; omega)]
    simp [boxL, hi]
  have h3 : ∀ Y : List HP, ((boxL bb n cum a c es ++ Y).eraseIdx (i + 2)).Perm (Y ++ (boxL bb n cum a c es).eraseIdx (i + 2)) := fun Y => by
    rw [List.eraseIdx_append_of_lt_length (by simp [boxL]; omega)]
    exact List.perm_append_comm
  have hB : (boxL bb n cum a c es)[i + 2]? = some (entP p) := by simp [boxL, hi]
  refine ⟨L ++ (boxL bb n cum a c es).eraseIdx (i + 2), ?_, fun X' e' w' h' => ?_⟩
  · have h4 := (Hs.flip.1 h).focus (h2 (X ++ L))
    refine h4.perm (List.Perm.cons _ ?_)
    refine (h3 (X ++ L)).trans ?_
    rw [List.append_assoc]
  · have h5 : Hs W (entP (p.1, e') :: (boxL bb n cum a c es ++ (X' ++ L)).eraseIdx (i + 2)) w' := by
      refine h'.perm (List.Perm.cons _ ?_)
      refine ((h3 (X' ++ L)).trans ?_).symm
      rw [List.append_assoc]
    have h6 := h5.unfocus (by simp [boxL]; omega)
    refine Hs.flip.1 (h6.cast ?_)
    have e1 : ptrV (es.set i (p.1, e')) = ptrV es := by
      unfold ptrV
      rw [List.map_set]
      refine set_id ?_
      simp [hi]
    rw [List.set_append_left _ _ (by simp [boxL]; omega)]
    unfold boxL
    rw [e1, List.length_set, List.map_set]
    rfl
def turnF (t g v : Bool) (e : En) : En :=
  let e1 := if v = true then { e with st := 3 } else if e.st = 3 ∧ t = false then e.mk' else e
  if g = true ∧ e1.st = 3 then { e1 with st := 4 } else e1
def turnR (t v : Bool) (e : En) (rn : Int) : Int := if v = false ∧ e.st = 3 ∧ t = false then IntKind.wrap .i64 (rn + e.data.length) else rn
def turnG (t g v : Bool) (e : En) (fr : Int) : Int :=
  let e1 := if v = true then { e with st := 3 } else if e.st = 3 ∧ t = false then e.mk' else e
  if g = true ∧ e1.st = 3 then IntKind.wrap .i64 (fr + e.data.length) else fr
structure TC where
  b4 : Nat
  rb : Nat
  oa : Option Addr
  N : Nat
  oc : Nat
  ta : Option Addr
  tc : Nat
  ga : Option Addr
  gc : Nat
  na : Option Addr
  nc : Nat
def TC.s (t : TC) (m : Nat) : R95 := ⟨t.ta, m, t.tc, t.ga, m, t.gc, t.na, m, t.nc⟩
def TC.prs (t : TC) (m : Nat) (f1 f2 f3 : Nat → Bool) (fr rn : Int) : List HP :=
  [pt t.b4 (.cells (t.s m).c 96 (0, 0)), pt t.rb (.cells (R47.mk t.oa t.N t.oc fr rn).c 48 (0, 0)), slP 4 1 t.ta m t.tc (bV m f1), slP 4 1 t.ga m t.gc (bV m f2), slP 4 1 t.na m t.nc (bV m f3)]
variable {T : TC} {f1 f2 f3 : Nat → Bool} {fr rn : Int} {R : List HP} {q : Nat} {j : Nat} {ea : Option Addr} {el ec : Nat} {n12 n13 : Int}
theorem c35_2 (_ : j < m) {e1 : En} {B : Bool} {Kn : Value → Value → Value → Value → Value → World → Prop} (h : Hs W (entP (q, e1) :: (T.prs m f1 f2 f3 fr rn ++ R)) w)
    (hK : ∀ w', Hs W (entP (q, if B = true then { e1 with st := 4 } else e1) :: (T.prs m f1 f2 f3 (if B = true then IntKind.wrap .i64 (fr + e1.data.length) else fr) rn ++ R)) w' → Kn (.pointer (some ⟨T.rb, 0, none⟩)) (.pointer (some ⟨T.b4, 0, none⟩)) (.slice ea el ec) (.int .i64 n12) (.int .i64 n13) w') :
    F35_2 Kn (.pointer (some ⟨T.rb, 0, none⟩)) (.pointer (some ⟨T.b4, 0, none⟩)) (.pointer (some ⟨q, 0, none⟩)) (.slice ea el ec) (.int .i64 n12) (.int .i64 n13) (.bool B) w := by
  unfold F35_2
  simp only [rdC_mk, rdI_mk, rdP_mk, rdA_mk, rdB_mk, add_mk, nn_some]
  cases B with
  | false => exact hK w h
  | true =>
    rw [br_true]
    obtain ⟨da, dc, h1⟩ := ent_open h
    refine h1.stc 0 rfl (by simp [R57.c]) fun w1 h2 => ?_
    have h2 := ent_close (p := (q, { e1 with st := 4 })) (da := da) (dc := dc) h2
    refine h2.drw fun w2 h3 => ⟨w2, Pres.refl _, ?_⟩
    refine h3.ldI 2 rfl rfl ?_
    refine clr (c60 (ent_re h3)) ⟨_, rfl, Pres.refl _, ?_⟩
    refine h3.stc 2 rfl (by simp [R47.c]) fun w3 h4 => hK w3 h4
theorem c35_3 (hj : j < m) {e1 : En} {Kn : Value → Value → Value → Value → Value → World → Prop} (h : Hs W (entP (q, e1) :: (T.prs m f1 f2 f3 fr rn ++ R)) w)
    (hK : ∀ w', Hs W (entP (q, if f2 j = true ∧ e1.st = 3 then { e1 with st := 4 } else e1) :: (T.prs m f1 f2 f3 (if f2 j = true ∧ e1.st = 3 then IntKind.wrap .i64 (fr + e1.data.length) else fr) rn ++ R)) w' → Kn (.pointer (some ⟨T.rb, 0, none⟩)) (.pointer (some ⟨T.b4, 0, none⟩)) (.slice ea el ec) (.int .i64 n12) (.int .i64 n13) w') :
    F35_3 Kn (.pointer (some ⟨T.rb, 0, none⟩)) (.pointer (some ⟨T.b4, 0, none⟩)) (.int .i64 (j : Int)) (.pointer (some ⟨q, 0, none⟩)) (.slice ea el ec) (.int .i64 n12) (.int .i64 n13) w := by
  unfold F35_3
  simp only [rdC_mk, rdI_mk, rdP_mk, rdA_mk, add_mk, nn_some]
  refine h.ldC 1 rfl rfl ?_
  have hr := h.rd 4 rfl
  show ixS 1 T.ga m _ _
  obtain ⟨gd, hg⟩ := hr.some (by rw [bV_length]; omega)
  rw [hg] at hr ⊢
  refine ixS_to rfl hj ?_
  rw [Nat.mul_one]
  refine ldB_c (hr.at (bV_at hj)) ?_
  cases hb : f2 j with
  | true =>
    rw [br_true]
    obtain ⟨qa, qc, hq⟩ := re_fld (ent_re h)
    refine ldI_at hq rfl ?_
    refine c35_2 hj h fun w' h' _g => ?_
    simp only [rdC_mk, rdI_mk, rdP_mk, rdA_mk]
    refine hK w' ?_
    have : (e1.st == 3) = decide (f2 j = true ∧ e1.st = 3) := by rw [hb]; by_cases h : e1.st = 3 <;> simp [h]
    have h' : Hs W (entP (q, if (e1.st == 3) = true then { e1 with st := 4 } else e1) :: (T.prs m f1 f2 f3 (if (e1.st == 3) = true then IntKind.wrap .i64 (fr + e1.data.length) else fr) rn ++ R)) w' := h'
    rw [this] at h'
    simpa only [decide_eq_true_eq, hb] using h'
  | false =>
    rw [br_false]
    refine c35_2 hj h fun w' h' _g => ?_
    simp only [rdC_mk, rdI_mk, rdP_mk, rdA_mk]
    refine hK w' ?_
    rw [if_neg (by rw [hb]; simp), if_neg (by rw [hb]; simp)]
    exact h'
theorem c35_1 (_ : j < m) {e1 : En} {B : Bool} {Kn : Value → Value → Value → Value → Value → Value → Value → World → Prop} (h : Hs W (entP (q, e1) :: (T.prs m f1 f2 f3 fr rn ++ R)) w)
    (hK : ∀ w', Hs W (entP (q, if B = true then e1.mk' else e1) :: (T.prs m f1 f2 f3 fr (if B = true then IntKind.wrap .i64 (rn + e1.data.length) else rn) ++ R)) w' → Kn (.pointer (some ⟨T.rb, 0, none⟩)) (.pointer (some ⟨T.b4, 0, none⟩)) (.int .i64 (j : Int)) (.pointer (some ⟨q, 0, none⟩)) (.slice ea el ec) (.int .i64 n12) (.int .i64 n13) w') :
    F35_1 Kn (.pointer (some ⟨T.rb, 0, none⟩)) (.pointer (some ⟨T.b4, 0, none⟩)) (.int .i64 (j : Int)) (.pointer (some ⟨q, 0, none⟩)) (.slice ea el ec) (.int .i64 n12) (.int .i64 n13) (.bool B) w := by
  unfold F35_1
  simp only [rdC_mk, rdI_mk, rdP_mk, rdA_mk, rdB_mk, add_mk, nn_some]
  cases B with
  | false => exact hK w h
  | true =>
    rw [br_true]
    refine cl (c54 (p := (q, e1)) (M := T.prs m f1 f2 f3 fr rn ++ R) h) ?_
    rintro _ w1 ⟨rfl, h2⟩
    refine ⟨rfl, ?_⟩
    refine h2.drw fun w2 h3 => ⟨w2, Pres.refl _, ?_⟩
    refine h3.ldI 2 rfl rfl ?_
    refine clr (c60 (ent_re h3)) ⟨_, rfl, Pres.refl _, ?_⟩
    refine h3.stc 2 rfl (by simp [R47.c]) fun w3 h4 => hK w3 h4
/-- the sums so far -/
def tsum (f1 f2 f3 : Nat → Bool) (l : List En) (j : Nat) : Int × Int := ((l.zipIdx).take j).foldl (fun s x => (turnG (f1 x.2) (f2 x.2) (f3 x.2) x.1 s.1, turnR (f1 x.2) (f3 x.2) x.1 s.2)) (0, 0)
theorem tsum_succ {f1 f2 f3 : Nat → Bool} {l : List En} {j : Nat} {e : En} (h : l[j]? = some e) : tsum f1 f2 f3 l (j + 1) = (turnG (f1 j) (f2 j) (f3 j) e (tsum f1 f2 f3 l j).1, turnR (f1 j) (f3 j) e (tsum f1 f2 f3 l j).2) := by
  unfold tsum
  have hz : l.zipIdx[j]? = some (e, j) := by simp [h]
  rw [List.take_add_one, hz, List.foldl_append]
  rfl
def turnL (f1 f2 f3 : Nat → Bool) (l : List En) : List En := l.mapIdx fun k e => turnF (f1 k) (f2 k) (f3 k) e
theorem c35_4 (hm : es.length ≤ 1048576) {K0 : World → Prop} :
    ∀ (i j : Nat) (w : World) (k : Nat), j + i = es.length → Hs W (T.prs es.length f1 f2 f3 (tsum f1 f2 f3 (dats es) j).1 (tsum f1 f2 f3 (dats es) j).2 ++ (boxL bb n cum a c (hP (fun k => decide (k < j)) (fun k => turnF (f1 k) (f2 k) (f3 k)) es) ++ L)) w → i < k →
      (∀ w' es', dats es' = turnL f1 f2 f3 (dats es) → Hs W (T.prs es.length f1 f2 f3 (tsum f1 f2 f3 (dats es) es.length).1 (tsum f1 f2 f3 (dats es) es.length).2 ++ (boxL bb n cum a c es' ++ L)) w' → K0 w') →
      F35_4 K0 k (.pointer (some ⟨T.rb, 0, none⟩)) (.pointer (some ⟨T.b4, 0, none⟩)) (.slice a es.length c) (.int .i64 (es.length : Int)) (.int .i64 (j : Int)) w := by
  intro i
  induction i with
  | zero =>
    intro j w k hj h hk hK
    obtain ⟨k, rfl⟩ : ∃ j, k = j + 1 := ⟨k - 1, by omega⟩
    show F35_4B _ _ _ _ _ _ _ _
    unfold F35_4B
    simp only [rdC_mk, rdI_mk, rdP_mk, rdA_mk, br_dec]
    refine ⟨fun hle => by exfalso; omega, fun _ => hK w _ ?_ (by rw [show es.length = j by omega] at h ⊢; exact h)⟩
    rw [hP_congr (P' := fun _ => true) fun i hi => by simp; omega, hP_all]
    rfl
  | succ i ih =>
    intro j w k hj h hk hK
    obtain ⟨k, rfl⟩ : ∃ j, k = j + 1 := ⟨k - 1, by omega⟩
    show F35_4B _ _ _ _ _ _ _ _
    unfold F35_4B
    simp only [rdC_mk, rdI_mk, rdP_mk, rdA_mk, br_dec, add_mk]
    refine ⟨fun hle => ?_, fun h => by exfalso; omega⟩
    obtain ⟨p, hp⟩ : ∃ p, es[j]? = some p := ⟨es[j]'(by omega), by simp⟩
    have hp' : (hP (fun k => decide (k < j)) (fun k => turnF (f1 k) (f2 k) (f3 k)) es)[j]? = some p := by rw [hP_get (by simp)]; exact hp
    have hpd : (dats es)[j]? = some p.2 := by simp [dats, hp]
    obtain ⟨R, hR, back⟩ := box_turnX h hp'
    have hrp : Rd w a (ptrV es) := by
      have h2 := (Hs.flip.1 h).rdO 1 rfl
      rw [hP_ptr] at h2; exact h2
    obtain ⟨pd, hpd'⟩ := hrp.some (by rw [ptrV_length]; omega)
    rw [hpd'] at hrp
    show ixS 1 a es.length _ _
    rw [hpd']
    refine ixS_to rfl (by omega) ?_
    rw [Nat.mul_one]
    refine ldP_c (hrp.at (ptrV_at hp)) ?_
    refine hR.ldC 1 rfl rfl ?_
    show ixS 1 T.na es.length _ _
    have hrn := hR.rd 5 rfl
    obtain ⟨nd, hnd⟩ := hrn.some (by rw [bV_length]; omega)
    rw [hnd] at hrn ⊢
    refine ixS_to rfl (by omega) ?_
    rw [Nat.mul_one]
    refine ldB_c (hrn.at (bV_at (by omega))) ?_
    have e1 : IntKind.wrap .i64 ((j : Int) + 1) = ((j + 1 : Nat) : Int) := by rw [wrap_i64 (by omega) (by omega)]; omega
    have next : ∀ w', Hs W (entP (p.1, turnF (f1 j) (f2 j) (f3 j) p.2) :: (T.prs es.length f1 f2 f3 (turnG (f1 j) (f2 j) (f3 j) p.2 (tsum f1 f2 f3 (dats es) j).1) (turnR (f1 j) (f3 j) p.2 (tsum f1 f2 f3 (dats es) j).2) ++ R)) w' →
        F35_4 K0 k (.pointer (some ⟨T.rb, 0, none⟩)) (.pointer (some ⟨T.b4, 0, none⟩)) (.slice a es.length c) (.int .i64 (es.length : Int)) (.int .i64 (IntKind.wrap .i64 ((j : Int) + 1))) w' := by
      intro w' h'
      rw [e1]
      refine ih (j + 1) w' k (by omega) ?_ (by omega) hK
      rw [tsum_succ hpd]
      have h2 := back _ _ _ h'
      rw [hP_set hp (by simp), hP_congr (P' := fun k => decide (k < j + 1)) fun i hi => by rw [Bool.eq_iff_iff, Bool.or_eq_true, decide_eq_true_eq, decide_eq_true_eq, decide_eq_true_eq]; omega] at h2
      exact h2
    rw [← hpd']
    rw [br_iff]
    refine ⟨fun hb => ?_, fun hb => ?_⟩
    · simp only [nn_some, add_mk]
      obtain ⟨da, dc, h1⟩ := ent_open hR
      refine h1.stc 0 rfl (by simp [R57.c]) fun w1 h2 => ?_
      have h2 := ent_close (p := (p.1, { p.2 with st := 3 })) (da := da) (dc := dc) h2
      refine c35_3 (by omega) h2 fun w3 h3 _g => ?_
      simp only [rdC_mk, rdI_mk, rdP_mk, rdA_mk]
      refine next w3 ?_
      unfold turnF turnG turnR
      simp only [hb, if_true]
      simpa using h3
    · simp only [nn_some, add_mk]
      obtain ⟨qa, qc, hq⟩ := re_fld (ent_re hR)
      refine ldI_at hq rfl ?_
      show br (p.2.st == 3) _ _
      rw [br_iff]
      refine ⟨fun hs => ?_, fun hs => ?_⟩
      · have hs : p.2.st = 3 := by simpa using hs
        refine hR.ldC 1 rfl rfl ?_
        show ixS 1 T.ta es.length _ _
        have hrt := hR.rd 3 rfl
        obtain ⟨td, htd⟩ := hrt.some (by rw [bV_length]; omega)
        rw [htd] at hrt ⊢
        refine ixS_to rfl (by omega) ?_
        rw [Nat.mul_one]
        refine ldB_c (hrt.at (bV_at (by omega))) ?_
        refine c35_1 (by omega) hR fun w3 h3 _g => ?_
        simp only [rdC_mk, rdI_mk, rdP_mk, rdA_mk]
        refine c35_3 (by omega) h3 fun w4 h4 _g => ?_
        simp only [rdC_mk, rdI_mk, rdP_mk, rdA_mk]
        refine next w4 ?_
        unfold turnF turnG turnR
        have ed : p.2.mk'.data = p.2.data := rfl
        cases ht : f1 j <;> simpa [hb, hs, ht, ed] using h4
      · have hs : p.2.st ≠ 3 := by simpa using hs
        refine c35_1 (by omega) hR fun w3 h3 _g => ?_
        simp only [rdC_mk, rdI_mk, rdP_mk, rdA_mk]
        refine c35_3 (by omega) h3 fun w4 h4 _g => ?_
        simp only [rdC_mk, rdI_mk, rdP_mk, rdA_mk]
        refine next w4 ?_
        unfold turnF turnG turnR
        simpa [hb, hs] using h4
theorem c35 {T0 : TC} (hm : es.length ≤ 1048576)
    (h : Hs W (pt T0.rb (.cells (R47.mk T0.oa T0.N T0.oc 0 0).c 48 (0, 0)) :: slP 4 1 T0.ta es.length T0.tc (bV es.length f1) :: slP 4 1 T0.ga es.length T0.gc (bV es.length f2) :: slP 4 1 T0.na es.length T0.nc (bV es.length f3) :: (boxL bb n cum a c es ++ L)) w) :
    Calls Try.prog 35 #[.pointer (some ⟨bb, 0, none⟩), (T0.s es.length).v, .pointer (some ⟨T0.rb, 0, none⟩)] w (rt fun v w' => v = .tuple #[] ∧ ∃ es', dats es' = turnL f1 f2 f3 (dats es) ∧
      Hs W (pt T0.rb (.cells (R47.mk T0.oa T0.N T0.oc (tsum f1 f2 f3 (dats es) es.length).1 (tsum f1 f2 f3 (dats es) es.length).2).c 48 (0, 0)) :: slP 4 1 T0.ta es.length T0.tc (bV es.length f1) :: slP 4 1 T0.ga es.length T0.gc (bV es.length f2) :: slP 4 1 T0.na es.length T0.nc (bV es.length f3) :: (boxL bb n cum a c es' ++ L)) w') := by
  refine F35_ok ?_
  unfold F35
  simp only [rdP_mk]
  refine exR95_of (T0.s es.length) ⟨rfl, ?_⟩
  refine h.alc fun b4 w1 h1 => ?_
  simp only [nn_some, add_mk]
  refine h1.ldC 5 rfl rfl ?_
  refine ⟨es.length + 1, c35_4 (W := W) (L := L) (bb := bb) (n := n) (cum := cum) (T := { T0 with b4 := b4 }) (f1 := f1) (f2 := f2) (f3 := f3) hm es.length 0 w1 _ (by omega) ?_ (by omega) fun w2 es' hd h2 _g => ⟨trivial, es', hd, ?_⟩⟩
  · rw [hP_congr (P' := fun _ => false) fun i hi => by simp, hP_none]
    exact h1
  · exact Hs.drop (A := pt b4 (.cells (T0.s es.length).c 96 (0, 0))) h2
end
end Go.Proofs.Ytmliokbonkndaaa
