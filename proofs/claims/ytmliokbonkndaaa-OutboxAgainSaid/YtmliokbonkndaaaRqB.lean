/-
  The document's box: what is told of it.
-/
import Derived.Test.YtmliokbonkndaaaRqA
namespace Go.Proofs.Ytmliokbonkndaaa
open Go Go.Sh
theorem drop_at {α : Type} {l : List α} {j : Nat} {x : α} (h : l[j]? = some x) : l.drop j = x :: l.drop (j + 1) := by
  have hlt := (List.getElem?_eq_some_iff.1 h).1
  rw [List.drop_eq_getElem_cons hlt, (List.getElem?_eq_some_iff.1 h).2]
theorem szs_drop {q : En → Bool} {l : List En} {j : Nat} {e : En} (h : l[j]? = some e) : szs q (l.drop j) = (if q e = true then e.data.length else 0) + szs q (l.drop (j + 1)) := by rw [drop_at h, szs_cons]
theorem szs_drop_le {q : En → Bool} {l : List En} (j : Nat) (hd : ∀ e ∈ l, e.data.length ≤ 70000) (hl : l.length ≤ 1048576) : szs q (l.drop j) ≤ 73400320000 := by
  have := szs_le (q := q) (l := l.drop j) fun e he => hd e (List.mem_of_mem_drop he)
  rw [List.length_drop] at this
  omega
section
variable {W w : World} {L M : List HP} {rb : Nat} {n cum : Int} {a : Option Addr} {c : Nat} {ds : List Dt} {d : Dt} {j : Nat}
theorem fsts_length (ds : List Dt) : (fsts ds).length = ds.length := by simp [fsts]
theorem c51 (h : RQ w rb n cum a c ds) (hl : ds.length ≤ 1048576) (hd : ∀ e ∈ fsts ds, e.data.length ≤ 70000) (p : Int) :
    Calls Try.prog 51 #[.pointer (some ⟨rb, 0, none⟩), .int .i64 p] w (rt fun v w' => v = .int .i64 (szs (onB p) (fsts ds) : Int) ∧ Same w w') := by
  refine F51_ok ?_
  unfold F51
  simp only [rdP_mk, rdI_mk]
  have loop : ∀ (i j : Nat) (s : Nat) (w1 : World) (k : Nat) (K0 : Value → World → Prop), j + i = ds.length → s ≤ j * 70000 → Same w w1 → i < k →
      (∀ w', Same w w' → K0 (.int .i64 ((s + szs (onB p) ((fsts ds).drop j) : Nat) : Int)) w') →
      F51_2 K0 k (.pointer (some ⟨rb, 0, none⟩)) (.int .i64 p) (.int .i64 (s : Int)) (.int .i64 (j : Int)) w1 := by
    intro i
    induction i with
    | zero =>
      intro j s w1 k K0 hj hs hw hk hK
      obtain ⟨k, rfl⟩ : ∃ j, k = j + 1 := ⟨k - 1, by omega⟩
      show F51_2B _ _ _ _ _ _ _
      unfold F51_2B
      simp only [rdP_mk, rdI_mk, nn_some, add_mk]
      refine (h.same hw).len ?_
      rw [br_dec]
      refine ⟨fun h => by exfalso; omega, fun _ => ?_⟩
      have := hK w1 hw
      rw [List.drop_eq_nil_of_le (by rw [fsts_length]; omega)] at this
      simpa [szs] using this
    | succ i ih =>
      intro j s w1 k K0 hj hs hw hk hK
      obtain ⟨k, rfl⟩ : ∃ j, k = j + 1 := ⟨k - 1, by omega⟩
      show F51_2B _ _ _ _ _ _ _
      unfold F51_2B
      simp only [rdP_mk, rdI_mk, nn_some, add_mk]
      have h1 := h.same hw
      refine h1.len ?_
      rw [br_dec]
      refine ⟨fun _ => ?_, fun h => by exfalso; omega⟩
      obtain ⟨d, hdj⟩ : ∃ d, ds[j]? = some d := ⟨ds[j]'(by omega), by simp⟩
      have hdl := hd d.1 (List.mem_of_getElem? (fsts_at hdj))
      have hz := szs_drop (q := onB p) (fsts_at hdj)
      have e1 : IntKind.wrap .i64 ((j : Int) + 1) = ((j + 1 : Nat) : Int) := by rw [wrap_i64 (by omega) (by omega)]; omega
      have next : ∀ (B : Bool), (B = onB p d.1) → ∀ K : Value → Value → Value → Value → World → Prop, (∀ s' : Nat, s' ≤ (j + 1) * 70000 → s' + szs (onB p) ((fsts ds).drop (j + 1)) = s + szs (onB p) ((fsts ds).drop j) → ∀ w2, Same w w2 → K (.pointer (some ⟨rb, 0, none⟩)) (.int .i64 p) (.int .i64 (s' : Int)) (.int .i64 (j : Int)) w2) →
          F51_1 K (.pointer (some ⟨rb, 0, none⟩)) (.int .i64 p) (.int .i64 (s : Int)) (.int .i64 (j : Int)) (.bool B) w1 := by
        intro B hB K hKK
        unfold F51_1
        simp only [rdP_mk, rdI_mk, rdB_mk, nn_some, add_mk]
        rw [br_iff]
        refine ⟨fun hb => ?_, fun hb => ?_⟩
        · refine h1.len (h1.at_row hdj fun ad _ hat => ?_)
          refine ldR57_of (s := d.1.r d.2.1 d.2.2) hat ?_
          refine cl (c74 _ w1) ?_
          rintro _ w2 ⟨rfl, s2⟩
          refine ⟨_, rfl, ?_⟩
          show K _ _ (.int .i64 (IntKind.wrap .i64 ((s : Int) + (d.1.data.length : Int)))) _ _
          have e2 : IntKind.wrap .i64 ((s : Int) + (d.1.data.length : Int)) = ((s + d.1.data.length : Nat) : Int) := by rw [wrap_i64 (by omega) (by omega)]; omega
          rw [e2]
          refine hKK _ (by omega) ?_ w2 (hw.trans s2 fun _ _ x => x)
          rw [hz, if_pos (by rw [← hB]; exact hb)]
          omega
        · refine hKK s (Nat.le_trans hs (Nat.mul_le_mul_right 70000 (Nat.le_succ j))) ?_ w1 hw
          rw [hz, if_neg (by rw [← hB, hb]; simp)]
          omega
      have fin : ∀ s' : Nat, s' ≤ (j + 1) * 70000 → s' + szs (onB p) ((fsts ds).drop (j + 1)) = s + szs (onB p) ((fsts ds).drop j) → ∀ w2, Same w w2 → F51_2 K0 k (.pointer (some ⟨rb, 0, none⟩)) (.int .i64 p) (.int .i64 (s' : Int)) (.int .i64 ((j + 1 : Nat) : Int)) w2 := by
        intro s' h1 h2 w2 h3
        refine ih (j + 1) s' w2 k K0 (by omega) h1 h3 (by omega) fun w' hs' => ?_
        rw [h2]
        exact hK w' hs'
      refine h1.len (h1.at_row hdj fun ad _ hat => ?_)
      refine at_i (k := 6) hat rfl ?_
      rw [br_iff]
      refine ⟨fun hst => ?_, fun hst => ?_⟩
      · refine h1.len (h1.at_row hdj fun ad _ hat => ?_)
        refine at_i (k := 1) hat rfl ?_
        refine next _ (by unfold onB; have : (d.1.st == 1) = true := hst; rw [this, Bool.true_and]; rfl) _ fun s' a1 a2 w2 a3 => ?_
        simp only [rdP_mk, rdI_mk, e1]
        exact fun _ => fin s' a1 a2 w2 a3
      · refine next _ (by unfold onB; have : (d.1.st == 1) = false := hst; rw [this, Bool.false_and]) _ fun s' a1 a2 w2 a3 => ?_
        simp only [rdP_mk, rdI_mk, e1]
        exact fun _ => fin s' a1 a2 w2 a3
  refine ⟨ds.length + 1, loop ds.length 0 0 w _ _ (by omega) (by omega) (Fr.refl w) (by omega) fun w' s _g => ?_⟩
  simp only [rdI_mk]
  rw [Nat.zero_add, List.drop_zero]
  exact ⟨rfl, s⟩
def tot (l : List En) : Nat → Nat
  | 0 => 0
  | j + 1 => tot l j + szs (onB (j : Int)) l
theorem c49 (h : RQ w rb n cum a c ds) {N : Nat} (hN : n = (N : Int)) (hN8 : N ≤ 8) (hl : ds.length ≤ 1048576) (hd : ∀ e ∈ fsts ds, e.data.length ≤ 70000) :
    Calls Try.prog 49 #[.pointer (some ⟨rb, 0, none⟩)] w (rt fun v w' => v = .int .i64 (tot (fsts ds) N : Int) ∧ Same w w') := by
  refine F49_ok ?_
  unfold F49
  simp only [rdP_mk]
  have loop : ∀ (i j : Nat) (w1 : World) (k : Nat) (K0 : Value → World → Prop), j + i = N → tot (fsts ds) j ≤ j * 73400320000 → Same w w1 → i < k →
      (∀ w', Same w w' → K0 (.int .i64 (tot (fsts ds) N : Int)) w') →
      F49_1 K0 k (.pointer (some ⟨rb, 0, none⟩)) (.int .i64 (tot (fsts ds) j : Int)) (.int .i64 (j : Int)) w1 := by
    intro i
    induction i with
    | zero =>
      intro j w1 k K0 hj hs hw hk hK
      obtain ⟨k, rfl⟩ : ∃ j, k = j + 1 := ⟨k - 1, by omega⟩
      show F49_1B _ _ _ _ _ _
      unfold F49_1B
      simp only [rdP_mk, rdI_mk, nn_some, add_mk]
      refine ldI_at (h.same hw).blk rfl ?_
      rw [br_dec]
      refine ⟨fun h => by exfalso; have h : (j : Int) < n := h; omega, fun _ => ?_⟩
      have : j = N := by omega
      rw [this]
      exact hK w1 hw
    | succ i ih =>
      intro j w1 k K0 hj hs hw hk hK
      obtain ⟨k, rfl⟩ : ∃ j, k = j + 1 := ⟨k - 1, by omega⟩
      show F49_1B _ _ _ _ _ _
      unfold F49_1B
      simp only [rdP_mk, rdI_mk, nn_some, add_mk]
      have h1 := h.same hw
      refine ldI_at h1.blk rfl ?_
      rw [br_dec]
      refine ⟨fun _ => ?_, fun h => by exfalso; have h : ¬ (j : Int) < n := h; omega⟩
      refine cl (c51 h1 hl hd j) ?_
      rintro _ w2 ⟨rfl, s2⟩
      refine ⟨_, rfl, ?_⟩
      have hle := szs_drop_le (q := onB j) (l := fsts ds) 0 hd (by rw [fsts_length]; exact hl)
      rw [List.drop_zero] at hle
      have e1 : IntKind.wrap .i64 ((j : Int) + 1) = ((j + 1 : Nat) : Int) := by rw [wrap_i64 (by omega) (by omega)]; omega
      have et : tot (fsts ds) (j + 1) = tot (fsts ds) j + szs (onB (j : Int)) (fsts ds) := rfl
      have e2 : IntKind.wrap .i64 ((tot (fsts ds) j : Int) + (szs (onB (j : Int)) (fsts ds) : Int)) = (tot (fsts ds) (j + 1) : Int) := by
        rw [et, wrap_i64 (by omega) (by omega)]; omega
      rw [e1, e2]
      exact ih (j + 1) w2 k K0 (by omega) (by rw [et]; omega) (hw.trans s2 fun _ _ x => x) (by omega) hK
  refine ⟨N + 1, loop N 0 w _ _ (by omega) (Nat.le_refl _) (Fr.refl w) (by omega) fun w' s _g => ?_⟩
  simp only [rdI_mk]
  exact ⟨trivial, s⟩
def oneD (o : Option Dt) (s : R57) (b : Bool) : Prop :=
  match o with
  | none => s = R57.z ∧ b = false
  | some d => s = d.1.r d.2.1 d.2.2 ∧ b = true
theorem c50 (h : RQ w rb n cum a c ds) (hl : ds.length ≤ 1048576) (p : Int) :
    Calls Try.prog 50 #[.pointer (some ⟨rb, 0, none⟩), .int .i64 p] w (rt fun v w' => ∃ s b, v = .tuple #[s.v, .bool b] ∧ oneD (ds.find? fun d => onB p d.1) s b ∧ Same w w') := by
  refine F50_ok ?_
  unfold F50
  simp only [rdP_mk, rdI_mk]
  refine (Hs.start w).alc fun b3 w1 h1 => ?_
  have loop : ∀ (i j : Nat) (k : Nat) (K0 : Value → World → Prop) (Kr : Value → Value → World → Prop), j + i = ds.length → ((ds.take j).find? fun d => onB p d.1) = none → i < k →
      (((ds.find? fun d => onB p d.1) = none) → K0 (.pointer (some ⟨b3, 0, none⟩)) w1) → (∀ d w', (ds.find? fun d => onB p d.1) = some d → Hs w [pt b3 (.cells (d.1.r d.2.1 d.2.2).c 58 (0, 0))] w' → Kr (.pointer (some ⟨b3, 0, none⟩)) (.bool true) w') →
      F50_2 K0 Kr k (.pointer (some ⟨rb, 0, none⟩)) (.int .i64 p) (.pointer (some ⟨b3, 0, none⟩)) (.int .i64 (j : Int)) w1 := by
    intro i
    induction i with
    | zero =>
      intro j k K0 Kr hj hs hk hK hKr
      obtain ⟨k, rfl⟩ : ∃ j, k = j + 1 := ⟨k - 1, by omega⟩
      show F50_2B _ _ _ _ _ _ _ _
      unfold F50_2B
      simp only [rdP_mk, rdI_mk, rdA_mk, nn_some, add_mk]
      refine (h.same h1.old).len ?_
      rw [br_dec]
      refine ⟨fun h => by exfalso; omega, fun _ => hK ?_⟩
      rw [List.take_of_length_le (by omega)] at hs
      exact hs
    | succ i ih =>
      intro j k K0 Kr hj hs hk hK hKr
      obtain ⟨k, rfl⟩ : ∃ j, k = j + 1 := ⟨k - 1, by omega⟩
      show F50_2B _ _ _ _ _ _ _ _
      unfold F50_2B
      simp only [rdP_mk, rdI_mk, rdA_mk, nn_some, add_mk]
      have hq := h.same h1.old
      refine hq.len ?_
      rw [br_dec]
      refine ⟨fun _ => ?_, fun h => by exfalso; omega⟩
      obtain ⟨d, hdj⟩ : ∃ d, ds[j]? = some d := ⟨ds[j]'(by omega), by simp⟩
      have e1 : IntKind.wrap .i64 ((j : Int) + 1) = ((j + 1 : Nat) : Int) := by rw [wrap_i64 (by omega) (by omega)]; omega
      have ht : ds.take (j + 1) = ds.take j ++ [d] := by rw [List.take_add_one, hdj]; rfl
      have next : ∀ (B : Bool), (B = onB p d.1) → ∀ (K : Value → Value → Value → Value → World → Prop) (Kr' : Value → Value → World → Prop), (onB p d.1 = false → K (.pointer (some ⟨rb, 0, none⟩)) (.int .i64 p) (.pointer (some ⟨b3, 0, none⟩)) (.int .i64 (j : Int)) w1) →
          (∀ d w', (ds.find? fun d => onB p d.1) = some d → Hs w [pt b3 (.cells (d.1.r d.2.1 d.2.2).c 58 (0, 0))] w' → Kr' (.pointer (some ⟨b3, 0, none⟩)) (.bool true) w') →
          F50_1 K Kr' (.pointer (some ⟨rb, 0, none⟩)) (.int .i64 p) (.pointer (some ⟨b3, 0, none⟩)) (.int .i64 (j : Int)) (.bool B) w1 := by
        intro B hB K Kr' hKK hKr'
        unfold F50_1
        simp only [rdP_mk, rdI_mk, rdA_mk, rdB_mk, nn_some, add_mk]
        rw [br_iff]
        refine ⟨fun hb => ?_, fun hb => hKK (by rw [← hB]; exact hb)⟩
        refine hq.len (hq.at_row hdj fun ad _ hat => ?_)
        refine ldR57_of (s := d.1.r d.2.1 d.2.2) hat ?_
        refine h1.stcL 0 rfl rfl fun w2 h2 => ?_
        refine hKr' d w2 ?_ h2
        have e2 : ds = ds.take (j + 1) ++ ds.drop (j + 1) := (List.take_append_drop _ _).symm
        rw [e2, List.find?_append, ht, List.find?_append, hs]
        have : onB p d.1 = true := by rw [← hB]; exact hb
        simp [this]
      have fin : onB p d.1 = false → F50_2 K0 Kr k (.pointer (some ⟨rb, 0, none⟩)) (.int .i64 p) (.pointer (some ⟨b3, 0, none⟩)) (.int .i64 ((j + 1 : Nat) : Int)) w1 := by
        intro hb
        refine ih (j + 1) k K0 Kr (by omega) ?_ (by omega) hK hKr
        rw [ht, List.find?_append, hs]
        simp [hb]
      refine hq.len (hq.at_row hdj fun ad _ hat => ?_)
      refine at_i (k := 6) hat rfl ?_
      rw [br_iff]
      refine ⟨fun hst => ?_, fun hst => ?_⟩
      · refine hq.len (hq.at_row hdj fun ad _ hat => ?_)
        refine at_i (k := 1) hat rfl ?_
        refine next _ (by unfold onB; have : (d.1.st == 1) = true := hst; rw [this, Bool.true_and]; rfl) _ _ (fun hb => ?_) fun d w' hf hw' => ?_
        · simp only [rdP_mk, rdI_mk, rdA_mk, e1]
          exact fun _ => fin hb
        · simp only [rdA_mk, rdB_mk]
          exact fun _ => hKr d w' hf hw'
      · refine next _ (by unfold onB; have : (d.1.st == 1) = false := hst; rw [this, Bool.false_and]) _ _ (fun hb => ?_) fun d w' hf hw' => ?_
        · simp only [rdP_mk, rdI_mk, rdA_mk, e1]
          exact fun _ => fin hb
        · simp only [rdA_mk, rdB_mk]
          exact fun _ => hKr d w' hf hw'
  refine ⟨ds.length + 1, loop ds.length 0 _ _ _ (by omega) rfl (by omega) (fun hf _g => ?_) fun d w' hf h2 _g => ?_⟩
  · simp only [rdA_mk]
    refine h1.stcL 0 rfl rfl fun w2 h2 => ldR57_of (s := R57.z) (h2.atL 0 rfl) ⟨R57.z, false, rfl, ?_, h2.old⟩
    rw [hf]
    exact ⟨rfl, rfl⟩
  · simp only [rdA_mk, rdB_mk]
    refine ldR57_of (s := d.1.r d.2.1 d.2.2) (h2.atL 0 rfl) ⟨_, true, rfl, ?_, h2.old⟩
    rw [hf]
    exact ⟨rfl, rfl⟩
theorem c47 (h : RQ w rb n cum a c ds) (hl : ds.length ≤ 1048576) (hd : ∀ e ∈ fsts ds, e.data.length ≤ 70000) :
    Calls Try.prog 47 #[.pointer (some ⟨rb, 0, none⟩)] w (rt fun v w' => ∃ s b, v = .tuple #[.int .i64 (szs mrkB (fsts ds) : Int), s.v, .bool b] ∧ oneD (ds.find? fun d => mrkB d.1) s b ∧ Same w w') := by
  refine F47_ok ?_
  unfold F47
  simp only [rdP_mk]
  refine (Hs.start w).alc fun b2 w1 h1 => h1.alc fun b4 w2 h2 => h2.stcL 0 rfl rfl fun w3 h3 => ?_
  have loop : ∀ (i j : Nat) (s : Nat) (w1 : World) (k : Nat) (K0 : Value → Value → Value → Value → World → Prop) (r : R57) (b : Bool), j + i = ds.length → s ≤ j * 70000 → Hs w [pt b4 (.cells r.c 58 (0, 0)), pt b2 (.cells R57.z.c 58 (0, 0))] w1 → oneD ((ds.take j).find? fun d => mrkB d.1) r b → i < k →
      (∀ w' r b, Hs w [pt b4 (.cells r.c 58 (0, 0)), pt b2 (.cells R57.z.c 58 (0, 0))] w' → oneD (ds.find? fun d => mrkB d.1) r b → K0 (.pointer (some ⟨b2, 0, none⟩)) (.int .i64 ((s + szs mrkB ((fsts ds).drop j) : Nat) : Int)) (.pointer (some ⟨b4, 0, none⟩)) (.bool b) w') →
      F47_1 K0 k (.pointer (some ⟨rb, 0, none⟩)) (.pointer (some ⟨b2, 0, none⟩)) (.int .i64 (s : Int)) (.pointer (some ⟨b4, 0, none⟩)) (.bool b) (.int .i64 (j : Int)) w1 := by
    intro i
    induction i with
    | zero =>
      intro j s w1 k K0 r b hj hs hw ho hk hK
      obtain ⟨k, rfl⟩ : ∃ j, k = j + 1 := ⟨k - 1, by omega⟩
      show F47_1B _ _ _ _ _ _ _ _ _
      unfold F47_1B
      simp only [rdP_mk, rdI_mk, rdA_mk, rdB_mk, nn_some, add_mk]
      refine (h.same hw.old).len ?_
      rw [br_dec]
      refine ⟨fun h => by exfalso; omega, fun _ => ?_⟩
      rw [List.take_of_length_le (by omega)] at ho
      have := hK w1 r b hw ho
      rw [List.drop_eq_nil_of_le (by rw [fsts_length]; omega)] at this
      simpa [szs] using this
    | succ i ih =>
      intro j s w1 k K0 r b hj hs hw ho hk hK
      obtain ⟨k, rfl⟩ : ∃ j, k = j + 1 := ⟨k - 1, by omega⟩
      show F47_1B _ _ _ _ _ _ _ _ _
      unfold F47_1B
      simp only [rdP_mk, rdI_mk, rdA_mk, rdB_mk, nn_some, add_mk]
      have hq := h.same hw.old
      refine hq.len ?_
      rw [br_dec]
      refine ⟨fun _ => ?_, fun h => by exfalso; omega⟩
      obtain ⟨d, hdj⟩ : ∃ d, ds[j]? = some d := ⟨ds[j]'(by omega), by simp⟩
      have hdl := hd d.1 (List.mem_of_getElem? (fsts_at hdj))
      have hz := szs_drop (q := mrkB) (fsts_at hdj)
      have e1 : IntKind.wrap .i64 ((j : Int) + 1) = ((j + 1 : Nat) : Int) := by rw [wrap_i64 (by omega) (by omega)]; omega
      have ht : ds.take (j + 1) = ds.take j ++ [d] := by rw [List.take_add_one, hdj]; rfl
      refine hq.len (hq.at_row hdj fun ad _ hat => ?_)
      refine at_i (k := 6) hat rfl ?_
      rw [br_iff]
      refine ⟨fun hst => ?_, fun hst => ?_⟩
      · have hm : mrkB d.1 = true := hst
        refine hq.len (hq.at_row hdj fun ad _ hat => ?_)
        refine ldR57_of (s := d.1.r d.2.1 d.2.2) hat ?_
        refine cl (c74 _ w1) ?_
        rintro _ w2 ⟨rfl, s2⟩
        refine ⟨_, rfl, ?_⟩
        have hw2 := hw.same s2
        have hq2 := h.same hw2.old
        have e2 : IntKind.wrap .i64 ((s : Int) + ((d.1.r d.2.1 d.2.2).f11n : Int)) = ((s + d.1.data.length : Nat) : Int) := by
          show IntKind.wrap .i64 ((s : Int) + (d.1.data.length : Int)) = _
          rw [wrap_i64 (by omega) (by omega)]; omega
        rw [e2, e1]
        have fin : ∀ w3 r' b', Hs w [pt b4 (.cells r'.c 58 (0, 0)), pt b2 (.cells R57.z.c 58 (0, 0))] w3 → oneD ((ds.take (j + 1)).find? fun d => mrkB d.1) r' b' → F47_1 K0 k (.pointer (some ⟨rb, 0, none⟩)) (.pointer (some ⟨b2, 0, none⟩)) (.int .i64 ((s + d.1.data.length : Nat) : Int)) (.pointer (some ⟨b4, 0, none⟩)) (.bool b') (.int .i64 ((j + 1 : Nat) : Int)) w3 := by
          intro w3 r' b' h3 ho'
          refine ih (j + 1) _ w3 k K0 r' b' (by omega) (by omega) h3 ho' (by omega) fun w' r2 b2 h4 ho2 => ?_
          have := hK w' r2 b2 h4 ho2
          rw [hz, if_pos hm] at this
          rwa [Nat.add_assoc]
        cases hf : (ds.take j).find? fun d => mrkB d.1 with
        | none =>
          rw [hf] at ho
          obtain ⟨rfl, rfl⟩ := ho
          rw [Bool.not_false, br_true]
          refine hq2.len (hq2.at_row hdj fun ad _ hat => ?_)
          refine ldR57_of (s := d.1.r d.2.1 d.2.2) hat ?_
          refine hw2.stcL 0 rfl rfl fun w3 h3 => fin w3 (d.1.r d.2.1 d.2.2) true h3 ?_
          rw [ht, List.find?_append, hf]
          simp [hm, oneD]
        | some d' =>
          rw [hf] at ho
          obtain ⟨rfl, rfl⟩ := ho
          rw [Bool.not_true, br_false]
          refine fin w2 _ true hw2 ?_
          rw [ht, List.find?_append, hf]
          exact ⟨rfl, rfl⟩
      · have hm : mrkB d.1 = false := hst
        rw [e1]
        refine ih (j + 1) s w1 k K0 r b (by omega) (Nat.le_trans hs (Nat.mul_le_mul_right 70000 (Nat.le_succ j))) hw ?_ (by omega) fun w' r2 b2 h4 ho2 => ?_
        · rw [ht, List.find?_append]
          cases hf : (ds.take j).find? fun d => mrkB d.1 with
          | none => rw [hf] at ho; simpa [hm] using ho
          | some d' => rw [hf] at ho; exact ho
        · have := hK w' r2 b2 h4 ho2
          rw [hz, if_neg (by rw [hm]; simp), Nat.zero_add] at this
          exact this
  refine ⟨ds.length + 1, loop ds.length 0 0 w3 _ _ R57.z false (by omega) (by omega) h3 ⟨rfl, rfl⟩ (by omega) fun w' r b hw ho _g => ?_⟩
  simp only [rdI_mk, rdA_mk, rdB_mk]
  rw [Nat.zero_add, List.drop_zero]
  refine hw.drw fun w4 h4 => ?_
  refine ldR57_of (s := r) (h4.atL 0 rfl) (h4.stcL 1 rfl rfl fun w5 h5 => ldR57_of (s := r) (h5.atL 1 rfl) ⟨r, b, rfl, ho, h5.old⟩)
end
end Go.Proofs.Ytmliokbonkndaaa
