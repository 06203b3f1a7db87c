/-
  The document's box: a report comes: chunks that later ones have overtaken.
-/
import Derived.Test.YtmliokbonkndaaaRqH
namespace Go.Proofs.Ytmliokbonkndaaa
open Go Go.Sh
def bI (nw : Nat → Bool) (l : List En) (k : Nat) (e : En) : Bool := e.st == 1 && laterFrom nw e.path e.sent (k + 1) (l.drop (k + 1))
def qF (nw : Nat → Bool) (l : List En) (k : Nat) (e : En) : En := quickF (bI nw l k e) e
def fwdF (nw : Nat → Bool) (l : List En) (F0 : Nat → R52) : Nat → Nat → R52
  | 0 => F0
  | j + 1 => match l[j]? with
    | some e => if mkdB (bI nw l j e) e = true then withL (fwdF nw l F0 j) e.path.toNat (IntKind.wrap .i64 ((fwdF nw l F0 j e.path.toNat).f3 + e.data.length)) else fwdF nw l F0 j
    | none => fwdF nw l F0 j
theorem fwdF_succ {nw : Nat → Bool} {l : List En} {F0 : Nat → R52} {j : Nat} {e : En} (h : l[j]? = some e) : fwdF nw l F0 (j + 1) = if mkdB (bI nw l j e) e = true then withL (fwdF nw l F0 j) e.path.toNat (IntKind.wrap .i64 ((fwdF nw l F0 j e.path.toNat).f3 + e.data.length)) else fwdF nw l F0 j := by
  rw [fwdF, h]
section
variable {W w : World} {L M : List HP} {rb b4 b6 b8 : Nat} {n cum : Int} {a : Option Addr} {c : Nat} {ds D : List Dt} {d d' : Dt} {j m N p : Nat} {s : R30} {r : Rp} {od : Addr} {oc : Nat} {fr rn : Int} {na : Option Addr} {nc : Nat} {nw : Nat → Bool} {F : Nat → R52} {ad : Addr}
theorem c44_3 {B : Bool} {Kn : Value → Value → Value → Value → Value → Value → World → Prop} (hd : D[j]? = some d) (hp : d.1.path = (p : Int)) (hpN : p < N)
    (h : Hs W (refL rb n cum (some ad) c D ++ (PX b4 b6 b8 s (some od) N oc fr rn na m nc nw F ++ L)) w)
    (hK : ∀ w', Hs W (refL rb n cum (some ad) c (D.set j (if B = true then ({ d.1 with st := 2, qk := true, miss := 0 }, d.2) else d)) ++ (PX b4 b6 b8 s (some od) N oc fr rn na m nc nw (if B = true then withL F p (IntKind.wrap .i64 ((F p).f3 + d.1.data.length)) else F) ++ L)) w' →
      Kn (.pointer (some ⟨rb, 0, none⟩)) (.pointer (some ⟨b4, 0, none⟩)) (.pointer (some ⟨b6, 0, none⟩)) (.pointer (some ⟨b8, 0, none⟩)) (.slice na m nc) (.int .i64 (j : Int)) w') :
    F44_3 Kn (.pointer (some ⟨rb, 0, none⟩)) (.pointer (some ⟨b4, 0, none⟩)) (.pointer (some ⟨b6, 0, none⟩)) (.pointer (some ⟨b8, 0, none⟩)) (.slice na m nc) (.int .i64 (j : Int)) (.pointer (some (ad.add (j * 14)))) (.bool B) w := by
  unfold F44_3
  simp only [rdP_mk, rdI_mk, rdA_mk, rdB_mk, rdC_mk, nn_some]
  cases B with
  | false =>
    rw [br_false]
    refine hK w ?_
    rw [if_neg (by simp), if_neg (by simp), set_id hd]
    exact h
  | true =>
    rw [br_true]
    have hjl := (List.getElem?_eq_some_iff.1 hd).1
    refine ref_put h (d' := ({ d.1 with st := 2 }, d.2)) hd (by decide) rfl rfl rfl fun w0 h0 => ?_
    refine ref_put2 h0 (d' := ({ d.1 with st := 2, qk := true }, d.2)) hjl (by decide) rfl rfl rfl fun w1 h1 => ?_
    refine ref_put2 h1 (d' := ({ d.1 with st := 2, qk := true, miss := 0 }, d.2)) hjl (by decide) rfl rfl rfl fun w2 h2 => ?_
    refine h2.drw fun w3 h3 => ⟨w3, Pres.of_Same (Fr.refl _), ?_⟩
    have g3 := Hs.flip.1 h3
    have hat := row_at h3 (j := j) (d := ({ d.1 with st := 2, qk := true, miss := 0 }, d.2)) (by simp [hjl])
    simp only [add_mk]
    refine g3.ldC 0 rfl rfl ?_
    refine at_i (k := 1) hat rfl ?_
    refine g3.ldC 0 rfl rfl ?_
    refine at_i (k := 1) hat rfl ?_
    have hr : Rd w3 (some od) (aV N F) := g3.rd 2 rfl
    refine ixS_to (p := p) hp hpN ?_
    simp only [add_add]
    refine ldI_c (hr.at (aV_at (v := .int .i64 (F p).f3) hpN rfl)) ?_
    refine ldR57_of (s := ({ d.1 with st := 2, qk := true, miss := 0 } : En).r d.2.1 d.2.2) hat ?_
    refine cl (c74 _ w3) ?_
    rintro _ w4 ⟨rfl, s4⟩
    refine ⟨_, rfl, Pres.of_Same s4, ?_⟩
    have g4 := g3.same s4
    refine ixS_to (p := p) hp hpN ?_
    simp only [add_add]
    refine g4.put 2 rfl (by rw [aV_length]; omega) fun w5 g5 => ?_
    rw [aV_set hpN (by decide) (x := ⟨(F p).f0, (F p).f1, (F p).f2, IntKind.wrap .i64 ((F p).f3 + d.1.data.length)⟩) rfl] at g5
    have g5 : Hs W (PX b4 b6 b8 s (some od) N oc fr rn na m nc nw (withL F p (IntKind.wrap .i64 ((F p).f3 + d.1.data.length))) ++ (refL rb n cum (some ad) c (D.set j ({ d.1 with st := 2, qk := true, miss := 0 }, d.2)) ++ L)) w5 := g5
    exact hK w5 (Hs.flip.1 g5)
theorem c44_6 {Kn : Value → Value → Value → Value → Value → Value → World → Prop} (hd : D[j]? = some d) (hp : d.1.path = (p : Int)) (hpN : p < N)
    (h : Hs W (refL rb n cum (some ad) c D ++ (PX b4 b6 b8 s (some od) N oc fr rn na m nc nw F ++ L)) w)
    (hK : ∀ w', Hs W (refL rb n cum (some ad) c (D.set j (quickF true d.1, d.2)) ++ (PX b4 b6 b8 s (some od) N oc fr rn na m nc nw (if mkdB true d.1 = true then withL F p (IntKind.wrap .i64 ((F p).f3 + d.1.data.length)) else F) ++ L)) w' →
      Kn (.pointer (some ⟨rb, 0, none⟩)) (.pointer (some ⟨b4, 0, none⟩)) (.pointer (some ⟨b6, 0, none⟩)) (.pointer (some ⟨b8, 0, none⟩)) (.slice na m nc) (.int .i64 (j : Int)) w') :
    F44_6 Kn (.pointer (some ⟨rb, 0, none⟩)) (.pointer (some ⟨b4, 0, none⟩)) (.pointer (some ⟨b6, 0, none⟩)) (.pointer (some ⟨b8, 0, none⟩)) (.slice na m nc) (.int .i64 (j : Int)) (.pointer (some (ad.add (j * 14)))) w := by
  unfold F44_6
  simp only [rdP_mk, rdI_mk, rdA_mk, rdB_mk, rdC_mk, nn_some]
  have hjl := (List.getElem?_eq_some_iff.1 hd).1
  refine at_i (k := 4) (row_at h hd) rfl ?_
  refine ref_put h (d' := ({ d.1 with miss := IntKind.wrap .i64 (d.1.miss + 1) }, d.2)) hd (by decide) rfl rfl rfl fun w1 h1 => ?_
  have hd1 : (D.set j ({ d.1 with miss := IntKind.wrap .i64 (d.1.miss + 1) }, d.2))[j]? = some (({ d.1 with miss := IntKind.wrap .i64 (d.1.miss + 1) }, d.2) : Dt) := by simp [hjl]
  refine at_i (k := 4) (row_at h1 hd1) rfl ?_
  have fin : ∀ (B : Bool) (K : Value → Value → Value → Value → Value → Value → World → Prop), B = (decide (IntKind.wrap .i64 (d.1.miss + 1) ≥ 3) && !d.1.qk) →
      (∀ w', Kn (.pointer (some ⟨rb, 0, none⟩)) (.pointer (some ⟨b4, 0, none⟩)) (.pointer (some ⟨b6, 0, none⟩)) (.pointer (some ⟨b8, 0, none⟩)) (.slice na m nc) (.int .i64 (j : Int)) w' → K (.pointer (some ⟨rb, 0, none⟩)) (.pointer (some ⟨b4, 0, none⟩)) (.pointer (some ⟨b6, 0, none⟩)) (.pointer (some ⟨b8, 0, none⟩)) (.slice na m nc) (.int .i64 (j : Int)) w') →
      F44_3 K (.pointer (some ⟨rb, 0, none⟩)) (.pointer (some ⟨b4, 0, none⟩)) (.pointer (some ⟨b6, 0, none⟩)) (.pointer (some ⟨b8, 0, none⟩)) (.slice na m nc) (.int .i64 (j : Int)) (.pointer (some (ad.add (j * 14)))) (.bool B) w1 := by
    intro B K hB hKK
    refine c44_3 (p := p) hd1 hp hpN h1 fun w' h' => hKK w' (hK w' ?_)
    rw [List.set_set] at h'
    refine h'.cast ?_
    have e1 : mkdB true d.1 = B := by unfold mkdB; rw [hB, Bool.true_and]
    have e2 : (if B = true then (({ ({ d.1 with miss := IntKind.wrap .i64 (d.1.miss + 1) } : En) with st := 2, qk := true, miss := 0 }, d.2) : Dt) else (({ d.1 with miss := IntKind.wrap .i64 (d.1.miss + 1) }, d.2) : Dt)) = (quickF true d.1, d.2) := by
      unfold quickF
      rw [if_pos rfl]
      by_cases hc : IntKind.wrap .i64 (d.1.miss + 1) ≥ 3 ∧ d.1.qk = false
      · rw [if_pos hc, if_pos (by rw [hB, decide_eq_true hc.1, hc.2]; rfl)]
      · rw [if_neg hc, if_neg ?_]
        rw [hB]
        intro hx
        rw [Bool.and_eq_true, decide_eq_true_eq] at hx
        exact hc ⟨hx.1, by simpa using hx.2⟩
    rw [e1, ← e2]
  rw [br_dec]
  refine ⟨fun h3 => ?_, fun h3 => ?_⟩
  · have h3 : IntKind.wrap .i64 (d.1.miss + 1) ≥ 3 := h3
    refine ldB_c ((row_at h1 hd1) 5 (.bool d.1.qk) rfl) ?_
    refine fin _ _ (by rw [decide_eq_true h3, Bool.true_and]) fun w' h' => ?_
    simp only [rdP_mk, rdI_mk, rdA_mk, rdC_mk]
    exact fun _ => h'
  · have h3 : ¬ IntKind.wrap .i64 (d.1.miss + 1) ≥ 3 := h3
    refine fin _ _ (by rw [decide_eq_false h3, Bool.false_and]) fun w' h' => ?_
    simp only [rdP_mk, rdI_mk, rdA_mk, rdC_mk]
    exact fun _ => h'
theorem hD_drop {f : Nat → En → En} {j k : Nat} (hk : j ≤ k) : (fsts (hD (fun k => decide (k < j)) f ds)).drop k = (fsts ds).drop k := by
  apply List.ext_getElem?
  intro q
  rw [List.getElem?_drop, List.getElem?_drop, hD_fsts]
  have : ¬ (k + q < j) := by omega
  simp [this]
theorem c44_8 {K4 : Value → Value → Value → Value → World → Prop} (hm : ds.length ≤ 1048576) (hml : m = ds.length) (hpath : ∀ e ∈ fsts ds, 0 ≤ e.path ∧ e.path < (N : Int))
    (hK : ∀ w', Hs W (refL rb n cum a c (hD (fun _ => true) (qF nw (fsts ds)) ds) ++ (PX b4 b6 b8 s (some od) N oc fr rn na m nc nw (fwdF nw (fsts ds) F m) ++ L)) w' →
      K4 (.pointer (some ⟨rb, 0, none⟩)) (.pointer (some ⟨b4, 0, none⟩)) (.pointer (some ⟨b6, 0, none⟩)) (.pointer (some ⟨b8, 0, none⟩)) w') :
    ∀ (i j : Nat) (w : World) (k : Nat), j + i = m → Hs W (refL rb n cum a c (hD (fun k => decide (k < j)) (qF nw (fsts ds)) ds) ++ (PX b4 b6 b8 s (some od) N oc fr rn na m nc nw (fwdF nw (fsts ds) F j) ++ L)) w → i < k →
      F44_8 K4 k (.pointer (some ⟨rb, 0, none⟩)) (.pointer (some ⟨b4, 0, none⟩)) (.pointer (some ⟨b6, 0, none⟩)) (.pointer (some ⟨b8, 0, none⟩)) (.slice na m nc) (.int .i64 (j : Int)) w := by
  intro i
  induction i with
  | zero =>
    intro j w k hj h hkk
    obtain ⟨k, rfl⟩ : ∃ j, k = j + 1 := ⟨k - 1, by omega⟩
    show F44_8B _ _ _ _ _ _ _ _ _
    unfold F44_8B
    simp only [rdP_mk, rdI_mk, rdA_mk, rdC_mk, nn_some, add_mk]
    refine (ref_rq h).len ?_
    rw [hD_length, br_dec]
    refine ⟨fun h => by exfalso; omega, fun _ => hK w ?_⟩
    have e1 : hD (fun k => decide (k < j)) (qF nw (fsts ds)) ds = hD (fun _ => true) (qF nw (fsts ds)) ds := hD_congr fun i hi => by simp; omega
    have e3 : j = m := by omega
    subst e3
    rw [← e1]
    exact h
  | succ i ih =>
    intro j w k hj h hkk
    obtain ⟨k, rfl⟩ : ∃ j, k = j + 1 := ⟨k - 1, by omega⟩
    show F44_8B _ _ _ _ _ _ _ _ _
    unfold F44_8B
    simp only [rdP_mk, rdI_mk, rdA_mk, rdC_mk, nn_some, add_mk]
    refine (ref_rq h).len ?_
    rw [hD_length, br_dec]
    refine ⟨fun _ => ?_, fun h => by exfalso; omega⟩
    obtain ⟨d, hdj⟩ : ∃ d, ds[j]? = some d := ⟨ds[j]'(by omega), by simp⟩
    have hdj' : (hD (fun k => decide (k < j)) (qF nw (fsts ds)) ds)[j]? = some d := by rw [hD_get (by simp)]; exact hdj
    obtain ⟨ad, rfl⟩ := ref_some (ref_rq h) hdj'
    have hfj := fsts_at hdj
    have hjl : j < (hD (fun k => decide (k < j)) (qF nw (fsts ds)) ds).length := by rw [hD_length]; omega
    have e1 : IntKind.wrap .i64 ((j : Int) + 1) = ((j + 1 : Nat) : Int) := by rw [wrap_i64 (by omega) (by omega)]; omega
    have skip : ∀ w2, bI nw (fsts ds) j d.1 = false → Hs W (refL rb n cum (some ad) c (hD (fun k => decide (k < j)) (qF nw (fsts ds)) ds) ++ (PX b4 b6 b8 s (some od) N oc fr rn na m nc nw (fwdF nw (fsts ds) F j) ++ L)) w2 → F44_8 K4 k (.pointer (some ⟨rb, 0, none⟩)) (.pointer (some ⟨b4, 0, none⟩)) (.pointer (some ⟨b6, 0, none⟩)) (.pointer (some ⟨b8, 0, none⟩)) (.slice na m nc) (.int .i64 ((j + 1 : Nat) : Int)) w2 := by
      intro w2 hb h2
      refine ih (j + 1) w2 k (by omega) ?_ (by omega)
      have eF : qF nw (fsts ds) j d.1 = d.1 := by unfold qF quickF; rw [hb]; rfl
      rw [← hD_step hdj, eF, show ((d.1, d.2) : Dt) = d from rfl, set_id hdj', fwdF_succ hfj, if_neg (by rw [hb]; unfold mkdB; simp)]
      exact h2
    refine (ref_rq h).len ?_
    rw [hD_length]
    refine ixS_to (p := j) rfl (by omega) ?_
    refine at_i (k := 6) (row_at h hdj') rfl ?_
    rw [e1, br_iff]
    refine ⟨fun hst => skip w ?_ h, fun hst => ?_⟩
    · have hst : (d.1.st != 1) = true := hst
      have hst : ¬ d.1.st = 1 := by simpa using hst
      unfold bI
      have : (d.1.st == 1) = false := by simpa using hst
      rw [this, Bool.false_and]
    have hst : (d.1.st != 1) = false := hst
    have hst : d.1.st = 1 := by simpa using hst
    have g := Hs.flip.1 h
    have hc75 := c75 (nc := nc) (ref_rq h) (by rw [hD_length]; exact hm) (nw := nw) (na := na) (by rw [hD_length, ← hml]; exact g.rd 1 rfl) hdj'
    rw [hD_length, ← hml, hD_drop (Nat.le_succ j)] at hc75
    refine cl hc75 ?_
    rintro _ w2 ⟨rfl, s2⟩
    refine ⟨_, rfl, ?_⟩
    have h2 := h.same s2
    have eb : bI nw (fsts ds) j d.1 = laterFrom nw d.1.path d.1.sent (j + 1) ((fsts ds).drop (j + 1)) := by
      unfold bI
      rw [show (d.1.st == 1) = true by simpa using hst, Bool.true_and]
    rw [← eb, br_iff]
    refine ⟨fun hb => skip w2 (by simpa using hb) h2, fun hb => ?_⟩
    have hb : bI nw (fsts ds) j d.1 = true := by simpa using hb
    obtain ⟨q1, q2⟩ := hpath d.1 (List.mem_of_getElem? hfj)
    refine c44_6 (p := d.1.path.toNat) hdj' (by omega) (by omega) h2 fun w3 h3 => ?_
    simp only [rdP_mk, rdI_mk, rdA_mk, rdC_mk, e1]
    intro _g
    refine ih (j + 1) w3 k (by omega) ?_ (by omega)
    have eF : qF nw (fsts ds) j d.1 = quickF true d.1 := by unfold qF; rw [hb]
    rw [← hD_step hdj, eF, fwdF_succ hfj, hb]
    exact h3
end
end Go.Proofs.Ytmliokbonkndaaa
