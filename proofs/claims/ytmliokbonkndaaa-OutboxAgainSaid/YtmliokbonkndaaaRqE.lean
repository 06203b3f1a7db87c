/-
  The document's box: sent again; a path is given up.
-/
import Derived.Test.YtmliokbonkndaaaRqD
namespace Go.Proofs.Ytmliokbonkndaaa
open Go Go.Sh
theorem upd1_at {q : En → Bool} {f : En → En} : ∀ {l : List En} {j : Nat} {e : En}, l[j]? = some e → q e = true → (∀ i x, i < j → l[i]? = some x → q x = false) → upd1 q f l = l.set j (f e) ∧ l.find? q = some e
  | [], _, _, h, _, _ => by simp at h
  | x :: l, 0, e, h, hq, _ => by
    simp at h; subst h
    constructor
    · unfold upd1; rw [if_pos hq]; rfl
    · rw [List.find?_cons, hq]
  | x :: l, j + 1, e, h, hq, hn => by
    have hx := hn 0 x (Nat.succ_pos _) rfl
    obtain ⟨h1, h2⟩ := upd1_at (f := f) (l := l) (j := j) (by simpa using h) hq fun i y hi hy => hn (i + 1) y (by omega) (by simpa using hy)
    constructor
    · unfold upd1
      rw [hx, if_neg (by simp), h1]
      rfl
    · rw [List.find?_cons, hx, h2]
section
variable {W w : World} {L M : List HP} {rb : Nat} {n cum : Int} {a : Option Addr} {c : Nat} {ds : List Dt} {d d' d0 : Dt} {j : Nat} {e : En}
theorem ref_put2 {ad : Addr} {k : Nat} {v : Value} {K : World → Prop} (h : Hs W (refL rb n cum (some ad) c (ds.set j d0) ++ L) w) (hj : j < ds.length) (hk : k < 14) (hv : recV d' = (recV d0).set k v) (hdat : d'.1.data = d0.1.data) (h2 : d'.2 = d0.2)
    (hK : ∀ w', Hs W (refL rb n cum (some ad) c (ds.set j d') ++ L) w' → K w') : stc ((ad.add (j * 14)).add k) v w K := by
  refine ref_put h (d := d0) (d' := d') (by simp [hj]) hk hv hdat h2 fun w' h' => hK w' ?_
  rw [List.set_set] at h'
  exact h'
theorem row_at {ad : Addr} (h : Hs W (refL rb n cum (some ad) c ds ++ L) w) (hd : ds[j]? = some d) : At w (ad.add (j * 14)) (recV d) := (h.rd 1 rfl).atI recV_length hd
def AgQ (W : World) (L : List HP) (rb : Nat) (n cum : Int) (a : Option Addr) (c : Nat) (ds : List Dt) (path now : Int) (v : Value) (w' : World) : Prop :=
  (askE n path now ≠ 0 ∧ v = .tuple #[R57.z.v, .bool false, .int .i64 (askE n path now)] ∧ Hs W (refL rb n cum a c ds ++ L) w') ∨
  (askE n path now = 0 ∧ (fsts ds).find? mrkB = none ∧ v = .tuple #[R57.z.v, .bool false, .int .i64 0] ∧ Hs W (refL rb n cum a c ds ++ L) w') ∨
  (askE n path now = 0 ∧ ∃ e ds' d', (fsts ds).find? mrkB = some e ∧ fsts ds' = upd1 mrkB (En.again path now) (fsts ds) ∧ d' ∈ ds' ∧ d'.1 = e.again path now ∧ v = .tuple #[(d'.1.r d'.2.1 d'.2.2).v, .bool true, .int .i64 0] ∧ Hs W (refL rb n cum a c ds' ++ L) w')
theorem c42 (h : Hs W (refL rb n cum a c ds ++ L) w) (hl : ds.length ≤ 1048576) (path now : Int) :
    Calls Try.prog 42 #[.pointer (some ⟨rb, 0, none⟩), .int .i64 path, .int .i64 now] w (rt (AgQ W L rb n cum a c ds path now)) := by
  refine F42_ok ?_
  unfold F42
  simp only [rdP_mk, rdI_mk]
  refine h.alc fun b4 w1 h1 => ?_
  refine clr (c65 (ref_rqX (X := [_]) h1) path) ⟨_, rfl, ?_⟩
  by_cases hh : 0 ≤ path ∧ path < n
  rotate_left
  · rw [show decide (0 ≤ path ∧ path < n) = false by simpa using hh, Bool.not_false, br_true]
    have e1 := askE_has (now := now) hh
    refine h1.stcL 0 rfl rfl fun w2 h2 => ldR57_of (s := R57.z) (h2.atL 0 rfl) (.inl ⟨by rw [e1]; decide, by rw [e1], h2.drop⟩)
  rw [show decide (0 ≤ path ∧ path < n) = true by simpa using hh, Bool.not_true, br_false]
  refine clr (c66 now w1) ⟨_, rfl, ?_⟩
  by_cases ht : 0 ≤ now ∧ now ≤ 1099511627776
  rotate_left
  · rw [show decide (0 ≤ now ∧ now ≤ 1099511627776) = false by simpa using ht, Bool.not_false, br_true]
    have e1 := askE_time hh ht
    refine h1.stcL 0 rfl rfl fun w2 h2 => ldR57_of (s := R57.z) (h2.atL 0 rfl) (.inl ⟨by rw [e1]; decide, by rw [e1], h2.drop⟩)
  rw [show decide (0 ≤ now ∧ now ≤ 1099511627776) = true by simpa using ht, Bool.not_true, br_false]
  have hok := askE_ok hh ht
  have h1 : Hs W ([pt b4 (.cells R57.z.c 58 (0, 0))] ++ (refL rb n cum a c ds ++ L)) w1 := h1
  have h2 := Hs.flip.1 h1
  have loop : ∀ (i j : Nat) (k : Nat) (K0 : Value → World → Prop) (Kr : Value → Value → Value → World → Prop), j + i = ds.length → (∀ i x, i < j → (fsts ds)[i]? = some x → mrkB x = false) → i < k →
      ((fsts ds).find? mrkB = none → K0 (.pointer (some ⟨b4, 0, none⟩)) w1) →
      (∀ e ds' d' w', (fsts ds).find? mrkB = some e → fsts ds' = upd1 mrkB (En.again path now) (fsts ds) → d' ∈ ds' → d'.1 = e.again path now → Hs W (pt b4 (.cells (d'.1.r d'.2.1 d'.2.2).c 58 (0, 0)) :: (refL rb n cum a c ds' ++ L)) w' → Kr (.pointer (some ⟨b4, 0, none⟩)) (.bool true) (.int .i64 0) w') →
      F42_1 K0 Kr k (.pointer (some ⟨rb, 0, none⟩)) (.int .i64 path) (.int .i64 now) (.pointer (some ⟨b4, 0, none⟩)) (.int .i64 (j : Int)) w1 := by
    intro i
    induction i with
    | zero =>
      intro j k K0 Kr hj hn hk hK hKr
      obtain ⟨k, rfl⟩ : ∃ j, k = j + 1 := ⟨k - 1, by omega⟩
      show F42_1B _ _ _ _ _ _ _ _ _
      unfold F42_1B
      simp only [rdP_mk, rdI_mk, rdA_mk, nn_some, add_mk]
      refine (ref_rq h2).len ?_
      rw [br_dec]
      refine ⟨fun h => by exfalso; omega, fun _ => hK ?_⟩
      rw [List.find?_eq_none]
      intro x hx
      obtain ⟨q, hq⟩ := List.getElem?_of_mem hx
      have hlt := (List.getElem?_eq_some_iff.1 hq).1
      rw [fsts_length] at hlt
      rw [hn q x (by omega) hq]
      simp
    | succ i ih =>
      intro j k K0 Kr hj hn hk hK hKr
      obtain ⟨k, rfl⟩ : ∃ j, k = j + 1 := ⟨k - 1, by omega⟩
      show F42_1B _ _ _ _ _ _ _ _ _
      unfold F42_1B
      simp only [rdP_mk, rdI_mk, rdA_mk, nn_some, add_mk]
      have hq := ref_rq h2
      refine hq.len ?_
      rw [br_dec]
      refine ⟨fun _ => ?_, fun h => by exfalso; omega⟩
      obtain ⟨d, hdj⟩ : ∃ d, ds[j]? = some d := ⟨ds[j]'(by omega), by simp⟩
      refine hq.len (hq.at_row hdj fun ad had hat => ?_)
      refine at_i (k := 6) hat rfl ?_
      rw [br_iff]
      refine ⟨fun hst => ?_, fun hst => ?_⟩
      · have hm : mrkB d.1 = true := hst
        refine hq.len (hq.at_row hdj fun ad2 had2 _ => ?_)
        subst had2
        have hjl : j < ds.length := by omega
        refine ref_put h2 (d' := ({ d.1 with st := 1 }, d.2)) hdj (by decide) rfl rfl rfl fun w2 g1 => ?_
        refine ref_put2 g1 (d' := ({ d.1 with st := 1, path := path }, d.2)) hjl (by decide) rfl rfl rfl fun w3 g2 => ?_
        refine ref_put2 g2 (d' := ({ d.1 with st := 1, path := path, sent := now }, d.2)) hjl (by decide) rfl rfl rfl fun w4 g3 => ?_
        refine ref_put2 g3 (d' := ({ d.1 with st := 1, path := path, sent := now, miss := 0 }, d.2)) hjl (by decide) rfl rfl rfl fun w5 g4 => ?_
        refine at_i (k := 2) (row_at g4 (d := ({ d.1 with st := 1, path := path, sent := now, miss := 0 }, d.2)) (by simp [hjl])) rfl ?_
        refine ref_put2 g4 (d' := (d.1.again path now, d.2)) hjl (by decide) rfl rfl rfl fun w6 g5 => ?_
        refine ldR57_of (s := (d.1.again path now).r d.2.1 d.2.2) (row_at g5 (d := (d.1.again path now, d.2)) (by simp [hjl])) ?_
        have g6 : Hs W (pt b4 (.cells R57.z.c 58 (0, 0)) :: (refL rb n cum (some ad2) c (ds.set j (d.1.again path now, d.2)) ++ L)) w6 := (Hs.flip (Y := [_])).1 g5
        refine g6.stcL 0 rfl rfl fun w7 g7 => ?_
        obtain ⟨u1, u2⟩ := upd1_at (f := En.again path now) (fsts_at hdj) hm hn
        refine hKr d.1 _ (d.1.again path now, d.2) w7 u2 ?_ (List.mem_of_getElem? (by simp [hjl] : (ds.set j (d.1.again path now, d.2))[j]? = some (d.1.again path now, d.2))) rfl g7
        rw [u1]
        unfold fsts
        rw [List.map_set]
      · have hm : mrkB d.1 = false := hst
        have e1 : IntKind.wrap .i64 ((j : Int) + 1) = ((j + 1 : Nat) : Int) := by rw [wrap_i64 (by omega) (by omega)]; omega
        rw [e1]
        refine ih (j + 1) k K0 Kr (by omega) (fun q x hq' hx => ?_) (by omega) hK hKr
        rcases Nat.lt_succ_iff_lt_or_eq.1 hq' with h3 | rfl
        · exact hn q x h3 hx
        · rw [fsts_at hdj] at hx; cases hx; exact hm
  refine ⟨ds.length + 1, loop ds.length 0 _ _ _ (by omega) (fun _ _ h => by omega) (by omega) (fun hf _g => ?_) fun e ds' d' w' hf h3 h4 h5 h6 _g => ?_⟩
  · simp only [rdA_mk]
    refine h1.stcL 0 rfl rfl fun w2 h3 => ldR57_of (s := R57.z) (h3.atL 0 rfl) (.inr (.inl ⟨hok, hf, rfl, h3.drop⟩))
  · simp only [rdA_mk, rdB_mk, rdI_mk]
    exact ldR57_of (s := d'.1.r d'.2.1 d'.2.2) (h6.atL 0 rfl) (.inr (.inr ⟨hok, e, ds', d', hf, h3, h4, h5, rfl, h6.drop⟩))
theorem mapIdx_const {α β : Type} (g : α → β) (l : List α) : l.mapIdx (fun _ x => g x) = l.map g := by
  apply List.ext_getElem?
  intro k
  rw [List.getElem?_mapIdx, List.getElem?_map]
theorem c46 (h : Hs W (refL rb n cum a c ds ++ L) w) (hl : ds.length ≤ 1048576) (hd : ∀ e ∈ fsts ds, e.data.length ≤ 70000) (path : Int) :
    Calls Try.prog 46 #[.pointer (some ⟨rb, 0, none⟩), .int .i64 path] w (rt fun v w' => (¬ (0 ≤ path ∧ path < n) ∧ v = .tuple #[.int .i64 0, .int .i64 90] ∧ Hs W (refL rb n cum a c ds ++ L) w') ∨
      ((0 ≤ path ∧ path < n) ∧ ∃ ds', fsts ds' = giveUp path (fsts ds) ∧ v = .tuple #[.int .i64 (szs (onB path) (fsts ds) : Int), .int .i64 0] ∧ Hs W (refL rb n cum a c ds' ++ L) w')) := by
  refine F46_ok ?_
  unfold F46
  simp only [rdP_mk, rdI_mk]
  refine clr (c65 (ref_rq h) path) ⟨_, rfl, ?_⟩
  by_cases hh : 0 ≤ path ∧ path < n
  rotate_left
  · rw [show decide (0 ≤ path ∧ path < n) = false by simpa using hh, Bool.not_false, br_true]
    exact .inl ⟨hh, trivial, h⟩
  rw [show decide (0 ≤ path ∧ path < n) = true by simpa using hh, Bool.not_true, br_false]
  obtain ⟨f, hf⟩ : ∃ f : Nat → En → En, f = fun _ e => if onB path e = true then e.mk' else e := ⟨_, rfl⟩
  have hlen : ∀ j, (hD (fun k => decide (k < j)) f ds).length = ds.length := fun j => hD_length _ _ _
  have loop : ∀ (i j : Nat) (s : Nat) (w1 : World) (k : Nat) (K0 : Value → World → Prop), j + i = ds.length → s ≤ j * 70000 → Hs W (refL rb n cum a c (hD (fun k => decide (k < j)) f ds) ++ L) w1 → i < k →
      (∀ w', Hs W (refL rb n cum a c (hD (fun _ => true) f ds) ++ L) w' → K0 (.int .i64 ((s + szs (onB path) ((fsts ds).drop j) : Nat) : Int)) w') →
      F46_2 K0 k (.pointer (some ⟨rb, 0, none⟩)) (.int .i64 path) (.int .i64 (s : Int)) (.int .i64 (j : Int)) w1 := by
    intro i
    induction i with
    | zero =>
      intro j s w1 k K0 hj hs hw hk hK
      obtain ⟨k, rfl⟩ : ∃ j, k = j + 1 := ⟨k - 1, by omega⟩
      show F46_2B _ _ _ _ _ _ _
      unfold F46_2B
      simp only [rdP_mk, rdI_mk, nn_some, add_mk]
      refine (ref_rq hw).len ?_
      rw [hlen, br_dec]
      refine ⟨fun h => by exfalso; omega, fun _ => ?_⟩
      have := hK w1 (by rw [hD_congr (P' := fun k => decide (k < j)) fun i hi => by simp; omega]; exact hw)
      rw [List.drop_eq_nil_of_le (by rw [fsts_length]; omega)] at this
      simpa [szs] using this
    | succ i ih =>
      intro j s w1 k K0 hj hs hw hk hK
      obtain ⟨k, rfl⟩ : ∃ j, k = j + 1 := ⟨k - 1, by omega⟩
      show F46_2B _ _ _ _ _ _ _
      unfold F46_2B
      simp only [rdP_mk, rdI_mk, nn_some, add_mk]
      have hq := ref_rq hw
      refine hq.len ?_
      rw [hlen, br_dec]
      refine ⟨fun _ => ?_, fun h => by exfalso; omega⟩
      obtain ⟨d, hdj⟩ : ∃ d, ds[j]? = some d := ⟨ds[j]'(by omega), by simp⟩
      have hdj' : (hD (fun k => decide (k < j)) f ds)[j]? = some d := by rw [hD_get (by simp)]; exact hdj
      have hdl := hd d.1 (List.mem_of_getElem? (fsts_at hdj))
      have hz := szs_drop (q := onB path) (fsts_at hdj)
      have e1 : IntKind.wrap .i64 ((j : Int) + 1) = ((j + 1 : Nat) : Int) := by rw [wrap_i64 (by omega) (by omega)]; omega
      obtain ⟨ad, had⟩ := ref_some hq hdj'
      subst had
      have hstep := hD_step (f := f) hdj
      have next : ∀ (B : Bool), (B = onB path d.1) → ∀ K : Value → Value → Value → Value → World → Prop, (∀ s' : Nat, s' ≤ (j + 1) * 70000 → s' + szs (onB path) ((fsts ds).drop (j + 1)) = s + szs (onB path) ((fsts ds).drop j) → ∀ w2, Hs W (refL rb n cum (some ad) c (hD (fun k => decide (k < j + 1)) f ds) ++ L) w2 → K (.pointer (some ⟨rb, 0, none⟩)) (.int .i64 path) (.int .i64 (s' : Int)) (.int .i64 (j : Int)) w2) →
          F46_1 K (.pointer (some ⟨rb, 0, none⟩)) (.int .i64 path) (.int .i64 (s : Int)) (.int .i64 (j : Int)) (.pointer (some (ad.add (j * 14)))) (.bool B) w1 := by
        intro B hB K hKK
        unfold F46_1
        simp only [rdP_mk, rdI_mk, rdB_mk, nn_some]
        rw [br_iff]
        refine ⟨fun hb => ?_, fun hb => ?_⟩
        · have hon : onB path d.1 = true := by rw [← hB]; exact hb
          have hfd : f j d.1 = d.1.mk' := by rw [hf]; simp only [hon, if_true]
          have hjl : j < (hD (fun k => decide (k < j)) f ds).length := by rw [hlen]; omega
          refine ref_put hw (d' := ({ d.1 with st := 2 }, d.2)) hdj' (by decide) rfl rfl rfl fun w2 g1 => ?_
          refine ref_put2 g1 (d' := (d.1.mk', d.2)) hjl (by decide) rfl rfl rfl fun w3 g2 => ?_
          refine ldR57_of (s := (d.1.mk').r d.2.1 d.2.2) (row_at g2 (d := (d.1.mk', d.2)) (by simp [hjl])) ?_
          refine cl (c74 _ w3) ?_
          rintro _ w4 ⟨rfl, s4⟩
          refine ⟨_, rfl, ?_⟩
          have e2 : IntKind.wrap .i64 ((s : Int) + (((d.1.mk').r d.2.1 d.2.2).f11n : Int)) = ((s + d.1.data.length : Nat) : Int) := by
            show IntKind.wrap .i64 ((s : Int) + (d.1.data.length : Int)) = _
            rw [wrap_i64 (by omega) (by omega)]; omega
          rw [e2]
          refine hKK _ (by omega) ?_ w4 ?_
          · rw [hz, if_pos hon]
            omega
          · rw [← hstep, hfd]
            exact g2.same s4
        · have hon : onB path d.1 = false := by rw [← hB]; exact hb
          have hfd : f j d.1 = d.1 := by rw [hf]; simp only [hon]; rfl
          refine hKK s (Nat.le_trans hs (Nat.mul_le_mul_right 70000 (Nat.le_succ j))) ?_ w1 ?_
          · rw [hz, if_neg (by rw [hon]; simp)]
            omega
          · rw [← hstep, hfd, show ((d.1, d.2) : Dt) = d from rfl, set_id hdj']
            exact hw
      have fin : ∀ s' : Nat, s' ≤ (j + 1) * 70000 → s' + szs (onB path) ((fsts ds).drop (j + 1)) = s + szs (onB path) ((fsts ds).drop j) → ∀ w2, Hs W (refL rb n cum (some ad) c (hD (fun k => decide (k < j + 1)) f ds) ++ L) w2 → F46_2 K0 k (.pointer (some ⟨rb, 0, none⟩)) (.int .i64 path) (.int .i64 (s' : Int)) (.int .i64 ((j + 1 : Nat) : Int)) w2 := by
        intro s' h1 h2 w2 h3
        refine ih (j + 1) s' w2 k K0 (by omega) h1 h3 (by omega) fun w' hs' => ?_
        rw [h2]
        exact hK w' hs'
      have hlen' := hlen j
      refine hq.len ?_
      rw [show (hD (fun k => decide (k < j)) f ds).length = ds.length from hlen']
      refine ixS_to (p := j) rfl (by omega) ?_
      have hat := row_at hw hdj'
      refine at_i (k := 6) hat rfl ?_
      rw [br_iff]
      refine ⟨fun hst => ?_, fun hst => ?_⟩
      · refine at_i (k := 1) hat rfl ?_
        refine next _ (by unfold onB; have : (d.1.st == 1) = true := hst; rw [this, Bool.true_and]; rfl) _ fun s' a1 a2 w2 a3 => ?_
        simp only [rdP_mk, rdI_mk, e1]
        exact fun _ => fin s' a1 a2 w2 a3
      · refine next _ (by unfold onB; have : (d.1.st == 1) = false := hst; rw [this, Bool.false_and]) _ fun s' a1 a2 w2 a3 => ?_
        simp only [rdP_mk, rdI_mk, e1]
        exact fun _ => fin s' a1 a2 w2 a3
  refine ⟨ds.length + 1, loop ds.length 0 0 w _ _ (by omega) (by omega) ?_ (by omega) fun w' hw _g => ?_⟩
  · rw [show hD (fun k => decide (k < 0)) f ds = ds from (hD_congr (P' := fun _ => false) fun i _ => by simp).trans (hD_none f ds)]
    exact h
  simp only [rdI_mk]
  rw [Nat.zero_add, List.drop_zero]
  refine .inr ⟨hh, _, ?_, rfl, hw⟩
  rw [hD_all, hf, mapIdx_const]
  rfl
end
end Go.Proofs.Ytmliokbonkndaaa
