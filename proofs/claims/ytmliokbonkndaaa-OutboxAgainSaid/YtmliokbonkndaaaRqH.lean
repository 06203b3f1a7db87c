/-
  The document's box: a report comes.
-/
import Derived.Test.YtmliokbonkndaaaRqG
namespace Go.Proofs.Ytmliokbonkndaaa
open Go Go.Sh
section
variable {W w : World} {L M : List HP} {rb b4 b6 b8 : Nat} {n cum : Int} {a : Option Addr} {c : Nat} {ds D : List Dt} {d d' : Dt} {j m N : Nat} {s : R30} {r : Rp} {oa : Option Addr} {oc : Nat} {fr rn : Int} {na : Option Addr} {nc : Nat} {nw : Nat → Bool} {F : Nat → R52} {ad : Addr}
def PX (b4 b6 b8 : Nat) (s : R30) (oa : Option Addr) (N oc : Nat) (fr rn : Int) (na : Option Addr) (m nc : Nat) (nw : Nat → Bool) (F : Nat → R52) : List HP :=
  [pt b8 (.cells (R47.mk oa N oc fr rn).c 48 (0, 0)), slP 4 1 na m nc (bV m nw), slP 53 4 oa N oc (aV N F), pt b4 (.cells s.c 31 (0, 0)), pt b6 (.cells R47.z.c 48 (0, 0))]
theorem set_if {α : Type} {l : List α} {j : Nat} {x : α} (h : l[j]? = some x) : l.set j x = l := set_id h
theorem c44_1 {B : Bool} {Kn : Value → Value → Value → Value → Value → Value → World → Prop} (hd : D[j]? = some d)
    (h : Hs W (refL rb n cum (some ad) c D ++ (PX b4 b6 b8 s oa N oc fr rn na m nc nw F ++ L)) w)
    (hK : ∀ w', Hs W (refL rb n cum (some ad) c (D.set j (if B = true then ({ d.1 with st := 4 }, d.2) else d)) ++ (PX b4 b6 b8 s oa N oc (if B = true then IntKind.wrap .i64 (fr + d.1.data.length) else fr) rn na m nc nw F ++ L)) w' →
      Kn (.pointer (some ⟨rb, 0, none⟩)) (.pointer (some ⟨b4, 0, none⟩)) (.pointer (some ⟨b6, 0, none⟩)) (.pointer (some ⟨b8, 0, none⟩)) (.slice na m nc) (.int .i64 (j : Int)) w') :
    F44_1 Kn (.pointer (some ⟨rb, 0, none⟩)) (.pointer (some ⟨b4, 0, none⟩)) (.pointer (some ⟨b6, 0, none⟩)) (.pointer (some ⟨b8, 0, none⟩)) (.slice na m nc) (.int .i64 (j : Int)) (.pointer (some (ad.add (j * 14)))) (.bool B) w := by
  unfold F44_1
  simp only [rdP_mk, rdI_mk, rdA_mk, rdB_mk, rdC_mk, nn_some]
  cases B with
  | false =>
    rw [br_false]
    refine hK w ?_
    rw [if_neg (by simp), if_neg (by simp), set_id hd]
    exact h
  | true =>
    rw [br_true]
    refine ref_put h (d' := ({ d.1 with st := 4 }, d.2)) hd (by decide) rfl rfl rfl fun w1 h1 => ?_
    refine h1.drw fun w2 h2 => ⟨w2, Pres.of_Same (Fr.refl _), ?_⟩
    have g2 : Hs W (PX b4 b6 b8 s oa N oc fr rn na m nc nw F ++ (refL rb n cum (some ad) c (D.set j ({ d.1 with st := 4 }, d.2)) ++ L)) w2 := Hs.flip.1 h2
    simp only [add_mk]
    refine g2.ldI 0 rfl rfl ?_
    have hjl := (List.getElem?_eq_some_iff.1 hd).1
    refine ldR57_of (s := ({ d.1 with st := 4 } : En).r d.2.1 d.2.2) (row_at h2 (d := ({ d.1 with st := 4 }, d.2)) (by simp [hjl])) ?_
    refine cl (c74 _ w2) ?_
    rintro _ w3 ⟨rfl, s3⟩
    refine ⟨_, rfl, Pres.of_Same s3, ?_⟩
    have g3 := g2.same s3
    refine g3.stc 0 rfl (by simp [R47.c]) fun w4 g4 => ?_
    have g4 : Hs W (PX b4 b6 b8 s oa N oc (IntKind.wrap .i64 (fr + d.1.data.length)) rn na m nc nw F ++ (refL rb n cum (some ad) c (D.set j ({ d.1 with st := 4 }, d.2)) ++ L)) w4 := g4
    exact hK w4 (Hs.flip.1 g4)
theorem c44_2 {B : Bool} {g : Bool} {pv : Value} {Kn : Value → Value → Value → Value → Value → Value → Value → Value → World → Prop} (hd : D[j]? = some d)
    (h : Hs W (refL rb n cum (some ad) c D ++ (PX b4 b6 b8 s oa N oc fr rn na m nc nw F ++ L)) w)
    (hK : ∀ w', Hs W (refL rb n cum (some ad) c (D.set j (if B = true then (d.1.mk', d.2) else d)) ++ (PX b4 b6 b8 s oa N oc fr (if B = true then IntKind.wrap .i64 (rn + d.1.data.length) else rn) na m nc nw F ++ L)) w' →
      Kn (.pointer (some ⟨rb, 0, none⟩)) (.pointer (some ⟨b4, 0, none⟩)) (.pointer (some ⟨b6, 0, none⟩)) (.pointer (some ⟨b8, 0, none⟩)) (.slice na m nc) (.int .i64 (j : Int)) (.bool g) (.pointer (some (ad.add (j * 14)))) w') :
    F44_2 Kn (.pointer (some ⟨rb, 0, none⟩)) (.pointer (some ⟨b4, 0, none⟩)) (.pointer (some ⟨b6, 0, none⟩)) (.pointer (some ⟨b8, 0, none⟩)) (.slice na m nc) (.int .i64 (j : Int)) (.bool g) (.pointer (some (ad.add (j * 14)))) (.bool B) w := by
  unfold F44_2
  simp only [rdP_mk, rdI_mk, rdA_mk, rdB_mk, rdC_mk, nn_some]
  cases B with
  | false =>
    rw [br_false]
    refine hK w ?_
    rw [if_neg (by simp), if_neg (by simp), set_id hd]
    exact h
  | true =>
    rw [br_true]
    have hjl := (List.getElem?_eq_some_iff.1 hd).1
    refine ref_put h (d' := ({ d.1 with st := 2 }, d.2)) hd (by decide) rfl rfl rfl fun w0 h0 => ?_
    refine ref_put2 h0 (d' := (d.1.mk', d.2)) hjl (by decide) rfl rfl rfl fun w1 h1 => ?_
    refine h1.drw fun w2 h2 => ⟨w2, Pres.of_Same (Fr.refl _), ?_⟩
    have g2 : Hs W (PX b4 b6 b8 s oa N oc fr rn na m nc nw F ++ (refL rb n cum (some ad) c (D.set j (d.1.mk', d.2)) ++ L)) w2 := Hs.flip.1 h2
    simp only [add_mk]
    refine g2.ldI 0 rfl rfl ?_
    refine ldR57_of (s := (d.1.mk').r d.2.1 d.2.2) (row_at h2 (d := (d.1.mk', d.2)) (by simp [hjl])) ?_
    refine cl (c74 _ w2) ?_
    rintro _ w3 ⟨rfl, s3⟩
    refine ⟨_, rfl, Pres.of_Same s3, ?_⟩
    have g3 := g2.same s3
    refine g3.stc 0 rfl (by simp [R47.c]) fun w4 g4 => ?_
    have g4 : Hs W (PX b4 b6 b8 s oa N oc fr (IntKind.wrap .i64 (rn + d.1.data.length)) na m nc nw F ++ (refL rb n cum (some ad) c (D.set j (d.1.mk', d.2)) ++ L)) w4 := g4
    exact hK w4 (Hs.flip.1 g4)
theorem c44_4 {g : Bool} {Kn : Value → Value → Value → Value → Value → Value → World → Prop} (hd : D[j]? = some d)
    (h : Hs W (refL rb n cum (some ad) c D ++ (PX b4 b6 b8 s oa N oc fr rn na m nc nw F ++ L)) w)
    (hK : ∀ w', Hs W (refL rb n cum (some ad) c (D.set j (if g = true ∧ d.1.st = 3 then ({ d.1 with st := 4 }, d.2) else d)) ++ (PX b4 b6 b8 s oa N oc (if g = true ∧ d.1.st = 3 then IntKind.wrap .i64 (fr + d.1.data.length) else fr) rn na m nc nw F ++ L)) w' →
      Kn (.pointer (some ⟨rb, 0, none⟩)) (.pointer (some ⟨b4, 0, none⟩)) (.pointer (some ⟨b6, 0, none⟩)) (.pointer (some ⟨b8, 0, none⟩)) (.slice na m nc) (.int .i64 (j : Int)) w') :
    F44_4 Kn (.pointer (some ⟨rb, 0, none⟩)) (.pointer (some ⟨b4, 0, none⟩)) (.pointer (some ⟨b6, 0, none⟩)) (.pointer (some ⟨b8, 0, none⟩)) (.slice na m nc) (.int .i64 (j : Int)) (.bool g) (.pointer (some (ad.add (j * 14)))) w := by
  unfold F44_4
  simp only [rdP_mk, rdI_mk, rdA_mk, rdB_mk, rdC_mk, nn_some]
  cases g with
  | false =>
    rw [br_false]
    refine c44_1 (B := false) hd h fun w' h' => ?_
    simp only [rdP_mk, rdI_mk, rdA_mk, rdC_mk]
    intro _g
    refine hK w' ?_
    rw [if_neg (by simp), if_neg (by simp)] at h' ⊢
    exact h'
  | true =>
    rw [br_true]
    refine at_i (k := 6) (row_at h hd) rfl ?_
    refine c44_1 (B := d.1.st == 3) hd h fun w' h' => ?_
    simp only [rdP_mk, rdI_mk, rdA_mk, rdC_mk]
    intro _g
    refine hK w' ?_
    simpa using h'
theorem c44_5 {g : Bool} {Kn : Value → Value → Value → Value → Value → Value → World → Prop} (hd : D[j]? = some d) (hjm : j < m)
    (h : Hs W (refL rb n cum (some ad) c D ++ (PX b4 b6 b8 s oa N oc fr rn na m nc nw F ++ L)) w)
    (hK : ∀ w' d', d' = (if nw j = true then { d.1 with st := 3 } else d.1) → Hs W (refL rb n cum (some ad) c (D.set j (if g = true ∧ d'.st = 3 then ({ d' with st := 4 }, d.2) else (d', d.2))) ++ (PX b4 b6 b8 s oa N oc (if g = true ∧ d'.st = 3 then IntKind.wrap .i64 (fr + d.1.data.length) else fr) rn na m nc nw F ++ L)) w' →
      Kn (.pointer (some ⟨rb, 0, none⟩)) (.pointer (some ⟨b4, 0, none⟩)) (.pointer (some ⟨b6, 0, none⟩)) (.pointer (some ⟨b8, 0, none⟩)) (.slice na m nc) (.int .i64 (j : Int)) w') :
    F44_5 Kn (.pointer (some ⟨rb, 0, none⟩)) (.pointer (some ⟨b4, 0, none⟩)) (.pointer (some ⟨b6, 0, none⟩)) (.pointer (some ⟨b8, 0, none⟩)) (.slice na m nc) (.int .i64 (j : Int)) (.bool g) (.pointer (some (ad.add (j * 14)))) w := by
  unfold F44_5
  simp only [rdP_mk, rdI_mk, rdA_mk, rdB_mk, rdC_mk, nn_some]
  have g1 : Hs W (PX b4 b6 b8 s oa N oc fr rn na m nc nw F ++ (refL rb n cum (some ad) c D ++ L)) w := Hs.flip.1 h
  have hr : Rd w na (bV m nw) := g1.rd 1 rfl
  obtain ⟨nd, hnd⟩ := hr.some (by rw [bV_length]; omega)
  have hjl := (List.getElem?_eq_some_iff.1 hd).1
  subst hnd
  refine ixS_to (p := j) rfl hjm ?_
  rw [Nat.mul_one]
  refine ldB_c (hr.at (bV_at hjm)) ?_
  rw [br_iff]
  refine ⟨fun hb => ?_, fun hb => ?_⟩
  · refine ref_put h (d' := ({ d.1 with st := 3 }, d.2)) hd (by decide) rfl rfl rfl fun w1 h1 => ?_
    refine c44_4 (d := ({ d.1 with st := 3 }, d.2)) (by simp [hjl]) h1 fun w' h' => ?_
    simp only [rdP_mk, rdI_mk, rdA_mk, rdC_mk]
    intro _g
    refine hK w' { d.1 with st := 3 } (by rw [if_pos hb]) ?_
    rw [List.set_set] at h'
    exact h'
  · refine c44_4 hd h fun w' h' => ?_
    simp only [rdP_mk, rdI_mk, rdA_mk, rdC_mk]
    intro _g
    exact hK w' d.1 (by rw [if_neg (by rw [hb]; simp)]) h'
theorem c44_7 {t g : Bool} {Kn : Value → Value → Value → Value → Value → Value → World → Prop} (hd : D[j]? = some d) (hjm : j < m) (hv : nw j = true → t = true)
    (h : Hs W (refL rb n cum (some ad) c D ++ (PX b4 b6 b8 s oa N oc fr rn na m nc nw F ++ L)) w)
    (hK : ∀ w', Hs W (refL rb n cum (some ad) c (D.set j (turnF t g (nw j) d.1, d.2)) ++ (PX b4 b6 b8 s oa N oc (turnG t g (nw j) d.1 fr) (turnR t (nw j) d.1 rn) na m nc nw F ++ L)) w' →
      Kn (.pointer (some ⟨rb, 0, none⟩)) (.pointer (some ⟨b4, 0, none⟩)) (.pointer (some ⟨b6, 0, none⟩)) (.pointer (some ⟨b8, 0, none⟩)) (.slice na m nc) (.int .i64 (j : Int)) w') :
    F44_7 Kn (.pointer (some ⟨rb, 0, none⟩)) (.pointer (some ⟨b4, 0, none⟩)) (.pointer (some ⟨b6, 0, none⟩)) (.pointer (some ⟨b8, 0, none⟩)) (.slice na m nc) (.int .i64 (j : Int)) (.bool t) (.bool g) w := by
  unfold F44_7
  simp only [rdP_mk, rdI_mk, rdA_mk, rdB_mk, rdC_mk, nn_some, add_mk]
  have hjl := (List.getElem?_eq_some_iff.1 hd).1
  refine (ref_rq h).len ?_
  refine ixS_to (p := j) rfl hjl ?_
  have fin : ∀ (B : Bool) (K : Value → Value → Value → Value → Value → Value → Value → Value → World → Prop), B = (!t && d.1.st == 3) →
      (∀ w', (∀ K5 : Value → Value → Value → Value → Value → Value → World → Prop, (∀ w2, Kn (.pointer (some ⟨rb, 0, none⟩)) (.pointer (some ⟨b4, 0, none⟩)) (.pointer (some ⟨b6, 0, none⟩)) (.pointer (some ⟨b8, 0, none⟩)) (.slice na m nc) (.int .i64 (j : Int)) w2 → K5 (.pointer (some ⟨rb, 0, none⟩)) (.pointer (some ⟨b4, 0, none⟩)) (.pointer (some ⟨b6, 0, none⟩)) (.pointer (some ⟨b8, 0, none⟩)) (.slice na m nc) (.int .i64 (j : Int)) w2) → F44_5 K5 (.pointer (some ⟨rb, 0, none⟩)) (.pointer (some ⟨b4, 0, none⟩)) (.pointer (some ⟨b6, 0, none⟩)) (.pointer (some ⟨b8, 0, none⟩)) (.slice na m nc) (.int .i64 (j : Int)) (.bool g) (.pointer (some (ad.add (j * 14)))) w') → K (.pointer (some ⟨rb, 0, none⟩)) (.pointer (some ⟨b4, 0, none⟩)) (.pointer (some ⟨b6, 0, none⟩)) (.pointer (some ⟨b8, 0, none⟩)) (.slice na m nc) (.int .i64 (j : Int)) (.bool g) (.pointer (some (ad.add (j * 14)))) w') →
      F44_2 K (.pointer (some ⟨rb, 0, none⟩)) (.pointer (some ⟨b4, 0, none⟩)) (.pointer (some ⟨b6, 0, none⟩)) (.pointer (some ⟨b8, 0, none⟩)) (.slice na m nc) (.int .i64 (j : Int)) (.bool g) (.pointer (some (ad.add (j * 14)))) (.bool B) w := by
    intro B K hB hKK
    refine c44_2 (pv := .nilIface) hd h fun w1 h1 => hKK w1 fun K5 hK5 => ?_
    refine c44_5 (d := if B = true then (d.1.mk', d.2) else d) (by simp [hjl]) hjm h1 fun w2 d2 hd2 h2 => hK5 w2 (hK w2 ?_)
    rw [List.set_set] at h2
    refine h2.cast ?_
    have q2 : (if B = true then (d.1.mk', d.2) else d).2 = d.2 := by split <;> rfl
    have q1 : (if B = true then (d.1.mk', d.2) else d).1 = if B = true then d.1.mk' else d.1 := by split <;> rfl
    have qd : (if B = true then (d.1.mk', d.2) else d).1.data = d.1.data := by split <;> rfl
    rw [q2, qd]
    rw [q1] at hd2
    have key : d2 = (if nw j = true then { d.1 with st := 3 } else if d.1.st = 3 ∧ t = false then d.1.mk' else d.1) := by
      rw [hd2]
      by_cases hn : nw j = true
      · have ht := hv hn
        rw [if_pos hn, if_pos hn, hB, ht]
        rfl
      · rw [if_neg hn, if_neg hn, hB]
        by_cases h3 : d.1.st = 3 <;> cases t <;> simp [h3]
    have eF : (if g = true ∧ d2.st = 3 then (({ d2 with st := 4 }, d.2) : Dt) else (d2, d.2)) = (turnF t g (nw j) d.1, d.2) := by
      have gen : ∀ x : En, (if g = true ∧ x.st = 3 then (({ x with st := 4 }, d.2) : Dt) else (x, d.2)) = (if g = true ∧ x.st = 3 then { x with st := 4 } else x, d.2) := fun x => by split <;> rfl
      rw [gen, key]
      rfl
    have eG : (if g = true ∧ d2.st = 3 then IntKind.wrap .i64 (fr + d.1.data.length) else fr) = turnG t g (nw j) d.1 fr := by
      rw [key]
      rfl
    have eR : (if B = true then IntKind.wrap .i64 (rn + d.1.data.length) else rn) = turnR t (nw j) d.1 rn := by
      unfold turnR
      rw [hB]
      by_cases hn : nw j = true
      · have ht := hv hn
        rw [ht, hn]; rfl
      · have hn : nw j = false := by simpa using hn
        rw [hn]
        by_cases h3 : d.1.st = 3 <;> cases t <;> simp [h3]
    rw [eF, eG, eR]
  rw [br_iff]
  refine ⟨fun ht => ?_, fun ht => ?_⟩
  · have ht : t = false := by simpa using ht
    refine at_i (k := 6) (row_at h hd) rfl ?_
    refine fin _ _ (by rw [ht]; rfl) fun w' h' => ?_
    simp only [rdP_mk, rdI_mk, rdA_mk, rdB_mk, rdC_mk]
    exact fun _ => h' _ fun w2 h2 => by
      simp only [rdP_mk, rdI_mk, rdA_mk, rdB_mk, rdC_mk]
      exact fun _ => h2
  · have ht : t = true := by simpa using ht
    refine fin _ _ (by rw [ht]; rfl) fun w' h' => ?_
    simp only [rdP_mk, rdI_mk, rdA_mk, rdB_mk, rdC_mk]
    exact fun _ => h' _ fun w2 h2 => by
      simp only [rdP_mk, rdI_mk, rdA_mk, rdB_mk, rdC_mk]
      exact fun _ => h2
def tellI (r : Rp) (l : List En) (k : Nat) : Bool := match l[k]? with | some e => tellT r e | none => false
def goodI (r : Rp) (l : List En) (k : Nat) : Bool := match l[k]? with | some e => tellG r e | none => false
def tF (r : Rp) (l : List En) (k : Nat) (e : En) : En := turnF (tellI r l k) (goodI r l k) (tellN r l k) e
theorem tellN_T (r : Rp) (l : List En) (k : Nat) (h : tellN r l k = true) : tellI r l k = true := by
  unfold tellN at h
  unfold tellI
  cases hk : l[k]? with
  | none => rw [hk] at h; exact h
  | some e =>
    rw [hk] at h
    rw [Bool.and_eq_true] at h
    exact h.1
theorem c44_9 {K2 : Value → Value → Value → Value → Value → World → Prop} (hm : ds.length ≤ 1048576) (hk : ChOk W s r) (ht : ∀ e ∈ fsts ds, 0 ≤ e.tsn ∧ e.tsn < 4294967296) (hml : m = ds.length)
    (hK : ∀ w', Hs W (refL rb n cum a c (hD (fun _ => true) (tF r (fsts ds)) ds) ++ (PX b4 b6 b8 s oa N oc (tsum (tellI r (fsts ds)) (goodI r (fsts ds)) (tellN r (fsts ds)) (fsts ds) m).1 (tsum (tellI r (fsts ds)) (goodI r (fsts ds)) (tellN r (fsts ds)) (fsts ds) m).2 na m nc (tellN r (fsts ds)) F ++ L)) w' →
      K2 (.pointer (some ⟨rb, 0, none⟩)) (.pointer (some ⟨b4, 0, none⟩)) (.pointer (some ⟨b6, 0, none⟩)) (.pointer (some ⟨b8, 0, none⟩)) (.slice na m nc) w') :
    ∀ (i j : Nat) (w : World) (k : Nat), j + i = m → Hs W (refL rb n cum a c (hD (fun k => decide (k < j)) (tF r (fsts ds)) ds) ++ (PX b4 b6 b8 s oa N oc (tsum (tellI r (fsts ds)) (goodI r (fsts ds)) (tellN r (fsts ds)) (fsts ds) j).1 (tsum (tellI r (fsts ds)) (goodI r (fsts ds)) (tellN r (fsts ds)) (fsts ds) j).2 na m nc (fun k => decide (k < j) && tellN r (fsts ds) k) F ++ L)) w → i < k →
      F44_9 K2 k (.pointer (some ⟨rb, 0, none⟩)) (.pointer (some ⟨b4, 0, none⟩)) (.pointer (some ⟨b6, 0, none⟩)) (.pointer (some ⟨b8, 0, none⟩)) (.slice na m nc) (.int .i64 (j : Int)) w := by
  intro i
  induction i with
  | zero =>
    intro j w k hj h hkk
    obtain ⟨k, rfl⟩ : ∃ j, k = j + 1 := ⟨k - 1, by omega⟩
    show F44_9B _ _ _ _ _ _ _ _ _
    unfold F44_9B
    simp only [rdP_mk, rdI_mk, rdA_mk, rdC_mk, nn_some, add_mk]
    refine (ref_rq h).len ?_
    rw [hD_length, br_dec]
    refine ⟨fun h => by exfalso; omega, fun _ => hK w ?_⟩
    have e1 : hD (fun k => decide (k < j)) (tF r (fsts ds)) ds = hD (fun _ => true) (tF r (fsts ds)) ds := hD_congr fun i hi => by simp; omega
    have e2 : bV m (fun k => decide (k < j) && tellN r (fsts ds) k) = bV m (tellN r (fsts ds)) := bV_congr fun k hk => by
      have : k < j := by omega
      simp [this]
    have e3 : j = m := by omega
    subst e3
    refine h.cast ?_
    unfold PX
    rw [e1, e2]
  | succ i ih =>
    intro j w k hj h hkk
    obtain ⟨k, rfl⟩ : ∃ j, k = j + 1 := ⟨k - 1, by omega⟩
    show F44_9B _ _ _ _ _ _ _ _ _
    unfold F44_9B
    simp only [rdP_mk, rdI_mk, rdA_mk, rdC_mk, nn_some, add_mk]
    refine (ref_rq h).len ?_
    rw [hD_length, br_dec]
    refine ⟨fun _ => ?_, fun h => by exfalso; omega⟩
    refine h.drw fun w1 h1 => ?_
    have g1 := Hs.flip.1 h1
    refine ldR30_of (s := s) (g1.atL 3 rfl) ?_
    obtain ⟨d, hdj⟩ : ∃ d, ds[j]? = some d := ⟨ds[j]'(by omega), by simp⟩
    have hdj' : (hD (fun k => decide (k < j)) (tF r (fsts ds)) ds)[j]? = some d := by rw [hD_get (by simp)]; exact hdj
    obtain ⟨ad, rfl⟩ := ref_some (ref_rq h1) hdj'
    have hfj := fsts_at hdj
    have hT : tellI r (fsts ds) j = tellT r d.1 := by unfold tellI; rw [hfj]
    have hG : goodI r (fsts ds) j = tellG r d.1 := by unfold goodI; rw [hfj]
    have hN : tellN r (fsts ds) j = (tellT r d.1 && d.1.opn) := by unfold tellN; rw [hfj]
    have hjl : j < (hD (fun k => decide (k < j)) (tF r (fsts ds)) ds).length := by rw [hD_length]; omega
    refine (ref_rq h1).len ?_
    refine ixS_to (p := j) rfl hjl ?_
    refine ldR57_of (s := d.1.r d.2.1 d.2.2) (row_at h1 hdj') ?_
    refine cl (c72 (hk.same h1.old) (d.1.r d.2.1 d.2.2) (ht d.1 (List.mem_of_getElem? hfj))) ?_
    rintro _ w2 ⟨rfl, s2⟩
    refine ⟨_, _, rfl, ?_⟩
    have h2 := h1.same s2
    clear h h1 g1
    have e1 : IntKind.wrap .i64 ((j : Int) + 1) = ((j + 1 : Nat) : Int) := by rw [wrap_i64 (by omega) (by omega)]; omega
    have step : ∀ (w3 : World) (B : Bool) (K7 : Value → Value → Value → Value → Value → Value → World → Prop), B = (tellT r d.1 && d.1.opn) →
        Hs W (refL rb n cum (some ad) c (hD (fun k => decide (k < j)) (tF r (fsts ds)) ds) ++ (PX b4 b6 b8 s oa N oc (tsum (tellI r (fsts ds)) (goodI r (fsts ds)) (tellN r (fsts ds)) (fsts ds) j).1 (tsum (tellI r (fsts ds)) (goodI r (fsts ds)) (tellN r (fsts ds)) (fsts ds) j).2 na m nc (fun k => decide (k < j) && tellN r (fsts ds) k) F ++ L)) w3 →
        (∀ w4, F44_9 K2 k (.pointer (some ⟨rb, 0, none⟩)) (.pointer (some ⟨b4, 0, none⟩)) (.pointer (some ⟨b6, 0, none⟩)) (.pointer (some ⟨b8, 0, none⟩)) (.slice na m nc) (.int .i64 ((j + 1 : Nat) : Int)) w4 → K7 (.pointer (some ⟨rb, 0, none⟩)) (.pointer (some ⟨b4, 0, none⟩)) (.pointer (some ⟨b6, 0, none⟩)) (.pointer (some ⟨b8, 0, none⟩)) (.slice na m nc) (.int .i64 (j : Int)) w4) →
        ixS 1 na m (j : Int) fun a26 => stc a26 (.bool B) w3 fun w27 => F44_7 K7 (.pointer (some ⟨rb, 0, none⟩)) (.pointer (some ⟨b4, 0, none⟩)) (.pointer (some ⟨b6, 0, none⟩)) (.pointer (some ⟨b8, 0, none⟩)) (.slice na m nc) (.int .i64 (j : Int)) (.bool (tellT r d.1)) (.bool (tellG r d.1)) w27 := by
      intro w3 B K7 hB h3 hK7
      have g3 := Hs.flip.1 h3
      have hr : Rd w3 na (bV m (fun k => decide (k < j) && tellN r (fsts ds) k)) := g3.rd 1 rfl
      obtain ⟨nd, hnd⟩ := hr.some (by rw [bV_length]; omega)
      subst hnd
      refine ixS_to (p := j) rfl (by omega) ?_
      rw [Nat.mul_one]
      refine g3.put 1 rfl (by rw [bV_length]; omega) fun w4 g4 => ?_
      have eN : (fun q => if q = j then B else (decide (q < j) && tellN r (fsts ds) q)) = fun q => decide (q < j + 1) && tellN r (fsts ds) q := by
        funext q
        by_cases hq : q = j
        · subst hq
          rw [if_pos rfl, hN, hB]
          simp
        · rw [if_neg hq]
          by_cases hq2 : q < j
          · have : q < j + 1 := by omega
            simp [hq2, this]
          · have : ¬ q < j + 1 := by omega
            simp [hq2, this]
      rw [bV_set (by omega), eN] at g4
      have g4 : Hs W (PX b4 b6 b8 s oa N oc (tsum (tellI r (fsts ds)) (goodI r (fsts ds)) (tellN r (fsts ds)) (fsts ds) j).1 (tsum (tellI r (fsts ds)) (goodI r (fsts ds)) (tellN r (fsts ds)) (fsts ds) j).2 (some nd) m nc (fun q => decide (q < j + 1) && tellN r (fsts ds) q) F ++ (refL rb n cum (some ad) c (hD (fun k => decide (k < j)) (tF r (fsts ds)) ds) ++ L)) w4 := g4
      have h4 := Hs.flip.1 g4
      have hvj : (decide (j < j + 1) && tellN r (fsts ds) j) = tellN r (fsts ds) j := by simp
      refine c44_7 (nw := fun q => decide (q < j + 1) && tellN r (fsts ds) q) hdj' (by omega) (fun hv => ?_) h4 fun w5 h5 => hK7 w5 (ih (j + 1) w5 k (by omega) ?_ (by omega))
      · rw [hvj, hN, Bool.and_eq_true] at hv
        exact hv.1
      · rw [← hD_step hdj]
        have eT : tsum (tellI r (fsts ds)) (goodI r (fsts ds)) (tellN r (fsts ds)) (fsts ds) (j + 1) = (turnG (tellT r d.1) (tellG r d.1) (tellN r (fsts ds) j) d.1 (tsum (tellI r (fsts ds)) (goodI r (fsts ds)) (tellN r (fsts ds)) (fsts ds) j).1, turnR (tellT r d.1) (tellN r (fsts ds) j) d.1 (tsum (tellI r (fsts ds)) (goodI r (fsts ds)) (tellN r (fsts ds)) (fsts ds) j).2) := by
          rw [tsum_succ hfj, hT, hG]
        rw [eT]
        simp only [hvj] at h5
        have eF : tF r (fsts ds) j d.1 = turnF (tellT r d.1) (tellG r d.1) (tellN r (fsts ds) j) d.1 := by unfold tF; rw [hT, hG]
        rw [eF]
        exact h5
    show br (tellT r d.1) _ _
    rw [br_iff]
    refine ⟨fun hb => ?_, fun hb => ?_⟩
    · refine (ref_rq h2).len ?_
      refine ixS_to (p := j) rfl hjl ?_
      refine ldR57_of (s := d.1.r d.2.1 d.2.2) (row_at h2 hdj') ?_
      refine cl (c73 _ w2) ?_
      rintro _ w3 ⟨rfl, s3⟩
      refine ⟨_, rfl, ?_⟩
      refine step w3 d.1.opn _ (by rw [hb, Bool.true_and]) (h2.same s3) fun w4 h4 => ?_
      simp only [rdP_mk, rdI_mk, rdA_mk, rdC_mk, e1]
      exact fun _ => h4
    · refine step w2 false _ (by rw [hb]; rfl) h2 fun w4 h4 => ?_
      simp only [rdP_mk, rdI_mk, rdA_mk, rdC_mk, e1]
      exact fun _ => h4
end
end Go.Proofs.Ytmliokbonkndaaa
