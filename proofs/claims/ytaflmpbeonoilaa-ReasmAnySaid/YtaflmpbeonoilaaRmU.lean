/-
  Nothing is shared (ReasmOwn).
-/
import Derived.Test.YtaflmpbeonoilaaRmX
namespace Go.Proofs.Ytaflmpbeonoilaa
open Go Go.Sh Go.RowKit
def owR (t f : Int) (a : Option Addr) (n c : Nat) : R35 := R35.mk 0 f t 0 0 0 0 0 0 0 none 0 0 none 0 0 none 0 0 a n c none 0 0
def own1 (X : List Int) : St := ⟨1073741824, [], [1], [0], [], [⟨0, 0, 0, true, X⟩]⟩
def own2 (X Y : List Int) : St := ⟨1073741824, [], [1, 2], [1], [], [⟨0, 0, 0, true, X⟩, ⟨0, 0, 0, false, Y⟩]⟩
theorem ow_1 (a : Option Addr) (n c : Nat) (X : List Int) : putS (newS 1 1073741824) ⟨owR 1 7 a n c, X⟩ = own1 (X ++ []) := by kernel_rfl
theorem ow_2 (a : Option Addr) (n c : Nat) (X Y : List Int) : putS (own1 X) ⟨owR 2 3 a n c, Y⟩ = own2 X (Y ++ []) := by kernel_rfl
theorem oe_1 (a : Option Addr) (n c : Nat) {X : List Int} (h0 : X ≠ []) (h1 : X.length ≤ 65531) : putE (newS 1 1073741824) ⟨owR 1 7 a n c, X⟩ = 0 := by
  have hl : X.length ≠ 0 := fun e => h0 (List.length_eq_zero_iff.1 e)
  unfold putE
  rw [if_neg (by show ¬ ((0 : Int) ≠ 0 ∨ X.length = 0 ∨ (65531 : Int) < X.length); omega), if_neg (by show ¬ ((1 : Int) ≤ 0); decide), if_neg (by show ¬ ((none : Option Ch).isSome = true ∨ (1 : Int) ∈ ([] : List Int)); simp), if_neg (by show ¬ ((1073741824 : Int) - ((0 : Nat) : Int) < X.length); omega), if_neg (by show ¬ (32768 ≤ 0); decide)]
theorem oe_2 (a : Option Addr) (n c : Nat) {X : List Int} (h0 : X ≠ []) (h1 : X.length ≤ 65531) : putE (own1 X) ⟨owR 2 3 a n c, X⟩ = 0 := by
  have hl : X.length ≠ 0 := fun e => h0 (List.length_eq_zero_iff.1 e)
  have ht : tot (own1 X) = X.length := by simp [tot, own1, szL, szM]
  unfold putE
  rw [ht, if_neg (by show ¬ ((0 : Int) ≠ 0 ∨ X.length = 0 ∨ (65531 : Int) < X.length); omega), if_neg (by show ¬ ((1 : Int) ≤ 0); decide), if_neg (by show ¬ ((none : Option Ch).isSome = true ∨ (2 : Int) ∈ ([1] : List Int)); simp), if_neg (by show ¬ ((1073741824 : Int) - (X.length : Int) < X.length); omega), if_neg (by show ¬ (32768 ≤ 0 + 1); decide)]
theorem oe_bad (a : Option Addr) (n c : Nat) {X : List Int} (h : X.length = 0 ∨ 65531 < X.length) : putE (newS 1 1073741824) ⟨owR 1 7 a n c, X⟩ = 201 := by
  rw [putE_eq, if_pos (by show (0 : Int) ≠ 0 ∨ X.length = 0 ∨ (65531 : Int) < X.length; omega)]
theorem ow_fix : fixS [1, 2] 0 = [1, 2] := by
  unfold fixS
  have e : [1, 2].filter (nearB 0) = [1, 2] := by kernel_rfl
  rw [e]
  refine eq_strict (k := dif 0) (strictD ?_ ?_ ?_) ?_ ?_
  · exact (List.mergeSort_perm _ _).nodup_iff.2 (by decide)
  · intro t ht
    have := (List.mergeSort_perm _ _).mem_iff.1 ht
    simp at this
    omega
  · refine (List.pairwise_mergeSort (leD_tr 0) (leD_tot 0) _).imp fun {a b} h => ?_
    unfold leD at h
    simpa using h
  · decide
  · intro x; exact (List.mergeSort_perm _ _).mem_iff
section
variable {W w : World} {L M Z : List HP} {tb mc mf : Nat} {hd : Int} {s : St}
theorem c3_3 {xa : Option Addr} {xc : Nat} {X : List Int} {od : Addr} {oc : Nat} {v3 : Option Addr} {n4 n5 : Int} {K0 : Value → Value → Value → Value → World → Prop} {Kr : Value → World → Prop} (hX : Rd W xa (inV .u8 X)) (hl : X.length ≤ 65531) :
    ∀ (i j : Nat) (w1 : World) (k : Nat) (Y : List Int), j + i = X.length → Y.length = X.length → Y.drop j = X.drop j → Hs W (slP 5 1 (some od) X.length oc (inV .u8 Y) :: L) w1 → i < k →
      (∀ w' Y', Y'.length = X.length → Hs W (slP 5 1 (some od) X.length oc (inV .u8 Y') :: L) w' → K0 (.slice xa X.length xc) (.pointer v3) (.int .i64 n4) (.int .i64 n5) w') →
      F3_3 K0 Kr k (.slice xa X.length xc) (.pointer v3) (.slice (some od) X.length oc) (.int .i64 n4) (.int .i64 n5) (.int .i64 (X.length : Int)) (.int .i64 (j : Int)) w1 := by
  intro i
  induction i with
  | zero =>
    intro j w1 k Y hj hYl hY h hk hK
    obtain ⟨k, rfl⟩ : ∃ j, k = j + 1 := ⟨k - 1, by omega⟩
    show F3_3B _ _ _ _ _ _ _ _ _ _ _
    unfold F3_3B
    simp only [rdC_mk, rdP_mk, rdI_mk, br_dec]
    exact ⟨fun hlt => by exfalso; omega, fun _ => hK w1 Y hYl h⟩
  | succ i ih =>
    intro j w1 k Y hj hYl hY h hk hK
    obtain ⟨k, rfl⟩ : ∃ j, k = j + 1 := ⟨k - 1, by omega⟩
    show F3_3B _ _ _ _ _ _ _ _ _ _ _
    unfold F3_3B
    simp only [rdC_mk, rdP_mk, rdI_mk, br_dec]
    refine ⟨fun _ => ?_, fun hlt => by exfalso; omega⟩
    refine h.drw fun w8 h8 => ?_
    obtain ⟨u, hu⟩ : ∃ u, X[j]? = some u := ⟨X[j]'(by omega), by simp⟩
    have huY : Y[j]? = some u := by
      have e1 := congrArg (·[0]?) hY
      simp only [List.getElem?_drop, Nat.add_zero] at e1
      rw [e1]; exact hu
    refine ixS_to rfl (by omega) ?_
    rw [Nat.mul_one]
    refine ldI_c ((h8.rd 0 rfl).at (inV_at huY)) ?_
    have hx8 := h8.rd_old hX
    obtain ⟨xd, hxa⟩ := hx8.some (by rw [inV_length]; omega)
    rw [hxa] at hx8 ⊢
    refine ixS_to rfl (by omega) ?_
    rw [Nat.mul_one]
    refine ldI_c (hx8.at (inV_at hu)) ?_
    have e0 : (u != u) = false := by simp
    rw [e0, br_false]
    refine ixS_to rfl (by omega) ?_
    rw [Nat.mul_one]
    refine ldI_c ((h8.rd 0 rfl).at (inV_at huY)) ?_
    refine ixS_to rfl (by omega) ?_
    rw [Nat.mul_one]
    refine h8.put 0 rfl (by rw [inV_length]; omega) fun w16 h16 => ?_
    have e1 : IntKind.wrap .i64 ((j : Int) + 1) = ((j + 1 : Nat) : Int) := by rw [wrap_i64 (by omega) (by omega)]; omega
    rw [inV_set] at h16
    rw [e1, ← hxa]
    refine ih (j + 1) w16 k _ (by omega) (by rw [List.length_set]; exact hYl) ?_ h16 (by omega) hK
    rw [List.drop_set_of_lt (by omega)]
    have := congrArg (·.drop 1) hY
    simpa [List.drop_drop] using this
theorem c3_2 {xa : Option Addr} {xc : Nat} {X : List Int} {od : Addr} {oc b30 : Nat} {m : R38} {v3 : Option Addr} {n4 n5 : Int} {K2 : Value → Value → Value → Value → Value → World → Prop} {Kr : Value → World → Prop} (hX : Rd W xa (inV .u8 X)) (hl : X.length ≤ 65531) (hm : m.f4a = some od ∧ m.f4n = X.length ∧ m.f4c = oc) :
    ∀ (i j : Nat) (w1 : World) (k : Nat) (Y : List Int), j + i = X.length → Y.length = X.length → Y.drop j = X.drop j → Hs W (slP 5 1 (some od) X.length oc (inV .u8 Y) :: pt b30 (.cells m.c 39 (0, 0)) :: L) w1 → i < k →
      (∀ w' Y', Y'.length = X.length → Hs W (slP 5 1 (some od) X.length oc (inV .u8 Y') :: pt b30 (.cells m.c 39 (0, 0)) :: L) w' → K2 (.slice xa X.length xc) (.pointer v3) (.int .i64 n4) (.int .i64 n5) (.pointer (some ⟨b30, 0, none⟩)) w') →
      F3_2 K2 Kr k (.slice xa X.length xc) (.pointer v3) (.int .i64 n4) (.int .i64 n5) (.pointer (some ⟨b30, 0, none⟩)) (.int .i64 (X.length : Int)) (.int .i64 (j : Int)) w1 := by
  intro i
  induction i with
  | zero =>
    intro j w1 k Y hj hYl hY h hk hK
    obtain ⟨k, rfl⟩ : ∃ j, k = j + 1 := ⟨k - 1, by omega⟩
    show F3_2B _ _ _ _ _ _ _ _ _ _ _
    unfold F3_2B
    simp only [rdC_mk, rdP_mk, rdI_mk, rdA_mk, br_dec]
    exact ⟨fun hlt => by exfalso; omega, fun _ => hK w1 Y hYl h⟩
  | succ i ih =>
    intro j w1 k Y hj hYl hY h hk hK
    obtain ⟨k, rfl⟩ : ∃ j, k = j + 1 := ⟨k - 1, by omega⟩
    show F3_2B _ _ _ _ _ _ _ _ _ _ _
    unfold F3_2B
    simp only [rdC_mk, rdP_mk, rdI_mk, rdA_mk, br_dec]
    refine ⟨fun _ => ?_, fun hlt => by exfalso; omega⟩
    refine h.drw fun w8 h8 => ?_
    simp only [add_mk]
    refine h8.ldC 1 rfl rfl ?_
    rw [hm.1, hm.2.1]
    obtain ⟨u, hu⟩ : ∃ u, X[j]? = some u := ⟨X[j]'(by omega), by simp⟩
    have huY : Y[j]? = some u := by
      have e1 := congrArg (·[0]?) hY
      simp only [List.getElem?_drop, Nat.add_zero] at e1
      rw [e1]; exact hu
    refine ixS_to rfl (by omega) ?_
    rw [Nat.mul_one]
    refine ldI_c ((h8.rd 0 rfl).at (inV_at huY)) ?_
    have hx8 := h8.rd_old hX
    obtain ⟨xd, hxa⟩ := hx8.some (by rw [inV_length]; omega)
    rw [hxa] at hx8 ⊢
    refine ixS_to rfl (by omega) ?_
    rw [Nat.mul_one]
    refine ldI_c (hx8.at (inV_at hu)) ?_
    have e0 : (u != u) = false := by simp
    rw [e0, br_false]
    refine h8.ldC 1 rfl rfl ?_
    rw [hm.1, hm.2.1]
    refine ixS_to rfl (by omega) ?_
    rw [Nat.mul_one]
    refine h8.put 0 rfl (by rw [inV_length]; omega) fun w16 h16 => ?_
    have e1 : IntKind.wrap .i64 ((j : Int) + 1) = ((j + 1 : Nat) : Int) := by rw [wrap_i64 (by omega) (by omega)]; omega
    rw [inV_set] at h16
    rw [e1, ← hxa]
    refine ih (j + 1) w16 k _ (by omega) (by rw [List.length_set]; exact hYl) ?_ h16 (by omega) hK
    rw [List.drop_set_of_lt (by omega)]
    have := congrArg (·.drop 1) hY
    simpa [List.drop_drop] using this
theorem c3_1 {xa : Option Addr} {xn xc : Nat} {ld : Option Addr} {lc n b30 : Nat} {v3 : Option Addr} {n4 n5 : Int} {K4 : Value → Value → Value → Value → Value → World → Prop} (hn : n ≤ 65531) :
    ∀ (i j : Nat) (w1 : World) (k : Nat) (Y : List Int), j + i = n → Y.length = n → Hs W (slP 30 1 ld n lc (inV .u32 Y) :: L) w1 → i < k →
      (∀ w', Hs W L w' → K4 (.slice xa xn xc) (.pointer v3) (.int .i64 n4) (.int .i64 n5) (.pointer (some ⟨b30, 0, none⟩)) w') →
      F3_1 K4 k (.slice xa xn xc) (.pointer v3) (.int .i64 n4) (.int .i64 n5) (.pointer (some ⟨b30, 0, none⟩)) (.slice ld n lc) (.int .i64 (n : Int)) (.int .i64 (j : Int)) w1 := by
  intro i
  induction i with
  | zero =>
    intro j w1 k Y hj hYl h hk hK
    obtain ⟨k, rfl⟩ : ∃ j, k = j + 1 := ⟨k - 1, by omega⟩
    show F3_1B _ _ _ _ _ _ _ _ _ _ _
    unfold F3_1B
    simp only [rdC_mk, rdP_mk, rdI_mk, rdA_mk, br_dec]
    exact ⟨fun hlt => by exfalso; omega, fun _ => hK w1 h.drop⟩
  | succ i ih =>
    intro j w1 k Y hj hYl h hk hK
    obtain ⟨k, rfl⟩ : ∃ j, k = j + 1 := ⟨k - 1, by omega⟩
    show F3_1B _ _ _ _ _ _ _ _ _ _ _
    unfold F3_1B
    simp only [rdC_mk, rdP_mk, rdI_mk, rdA_mk, br_dec]
    refine ⟨fun _ => ?_, fun hlt => by exfalso; omega⟩
    obtain ⟨ad, hl⟩ := (h.rd 0 rfl).some (by rw [inV_length]; omega)
    subst hl
    refine ixS_to rfl (by omega) ?_
    rw [Nat.mul_one]
    refine h.put 0 rfl (by rw [inV_length]; omega) fun w16 h16 => ?_
    have e1 : IntKind.wrap .i64 ((j : Int) + 1) = ((j + 1 : Nat) : Int) := by rw [wrap_i64 (by omega) (by omega)]; omega
    rw [inV_set] at h16
    rw [e1]
    exact ih (j + 1) w16 k _ (by omega) (by rw [List.length_set]; exact hYl) h16 (by omega) hK
theorem ow_ok1 {X : List Int} (h0 : X ≠ []) (h1 : X.length ≤ 65531) : OkB (own1 X) := by
  have := (put_ok (newS_ok 1 1073741824) (c := ⟨owR 1 7 none 0 0, X⟩) ⟨by show (0 : Int) ≤ 1 ∧ (1 : Int) < 4294967296; decide, by show (0 : Int) ≤ 0 ∧ (0 : Int) < 65536; decide⟩ (by decide) (oe_1 none 0 0 h0 h1)).1
  rw [ow_1, List.append_nil] at this
  exact this
theorem ow_ok2 {X : List Int} (h0 : X ≠ []) (h1 : X.length ≤ 65531) : OkB (own2 X X) := by
  have := (put_ok (ow_ok1 h0 h1) (c := ⟨owR 2 3 none 0 0, X⟩) ⟨by show (0 : Int) ≤ 2 ∧ (2 : Int) < 4294967296; decide, by show (0 : Int) ≤ 0 ∧ (0 : Int) < 65536; decide⟩ (by show (1073741824 : Int) ≤ _; decide) (oe_2 none 0 0 h0 h1)).1
  rw [ow_2, List.append_nil] at this
  exact this
theorem ok_take {m : Ms} {r : List Ms} (h : OkB s) (hM : s.M = m :: r) : OkB { s with M := r } :=
  ⟨⟨h.key, h.rng, h.fix, h.fkey, h.cnt, h.rows, h.dis, fun m' hm => h.mne m' (by rw [hM]; simp [hm]), by have := tot_take hM; have := h.tot; omega⟩, h.frng, h.whole⟩
theorem c3_4 {xa : Option Addr} {xc : Nat} {X : List Int} {Kr : Value → World → Prop} (hX : Rd W xa (inV .u8 X)) (hb : ∀ x ∈ X, 0 ≤ x ∧ x < 256) (h0 : X ≠ []) (h1 : X.length ≤ 65531) (h : Hs W [tabP tb (tot (newS 1 1073741824)) (newS 1 1073741824)] w) (hK : ∀ w', Same W w' → Kr (.bool true) w') :
    F3_4 Kr (.slice xa X.length xc) (.pointer (some ⟨tb, 0, none⟩)) w := by
  unfold F3_4
  simp only [rdC_mk, rdP_mk]
  have hl0 : X.length ≠ 0 := fun e => h0 (List.length_eq_zero_iff.1 e)
  refine ⟨_, _, _, _, run_b0 w, ?_⟩
  have h2 := h.void 5 1
  generalize w.alloc (.cells #[] 5) = w4 at h2 ⊢
  generalize w.heap.size = ob at h2 ⊢
  have hx4 := h2.rd_old hX
  obtain ⟨xd, hxa⟩ := hx4.some (by rw [inV_length]; omega)
  rw [hxa] at hX hx4 ⊢
  refine h2.append (ty := 22) (d := xc) E22 0 rfl (news := inV .u8 X) (m := X.length) (by rw [inV_length]; omega) hx4 (inV_one _ _) (by omega) (by omega) fun oa oc w6 h6 _ => ?_
  rw [List.nil_append] at h6
  have hz : 0 + X.length = X.length := by omega
  rw [hz] at h6 ⊢
  have h6 : Hs W (slP 5 1 oa X.length oc (inV .u8 X) :: [tabP tb (tot (newS 1 1073741824)) (newS 1 1073741824)]) w6 := h6
  have h7 := h6.perm (List.Perm.swap _ _ _)
  refine cl (c12 1 7 0 0 _ _ _ w6) ?_
  rintro _ w7 ⟨rfl, s7⟩
  refine exR35_of (owR 1 7 oa X.length oc) ⟨rfl, ?_⟩
  have hrdZ : ∀ w', Hs W [slP 5 1 oa X.length oc (inV .u8 X)] w' → Rd w' oa (inV .u8 X) := fun w' h' => h'.rd 0 rfl
  refine cl (c11 (x := owR 1 7 oa X.length oc) (b := X) (newS_ok 1 1073741824) ⟨by show (0 : Int) ≤ 1 ∧ (1 : Int) < 4294967296; decide, by show (0 : Int) ≤ 0 ∧ (0 : Int) < 65536; decide⟩ rfl (by decide) (by decide) hrdZ (h7.same s7)) ?_
  have et1 : putT (newS 1 1073741824) ⟨owR 1 7 oa X.length oc, X⟩ = own1 X := by unfold putT; rw [if_pos (oe_1 _ _ _ h0 h1), ow_1, List.append_nil]
  rw [et1, oe_1 _ _ _ h0 h1]
  rintro _ w10 ⟨rfl, h10⟩
  refine ⟨_, rfl, ?_⟩
  refine cl (c12 2 3 0 0 _ _ _ w10) ?_
  rintro _ w13 ⟨rfl, s13⟩
  refine exR35_of (owR 2 3 oa X.length oc) ⟨rfl, ?_⟩
  refine cl (c11 (x := owR 2 3 oa X.length oc) (b := X) (ow_ok1 h0 h1) ⟨by show (0 : Int) ≤ 2 ∧ (2 : Int) < 4294967296; decide, by show (0 : Int) ≤ 0 ∧ (0 : Int) < 65536; decide⟩ rfl (by show (0 : Int) ≤ 1073741824 ∧ (1073741824 : Int) ≤ _; decide) (by show 1 ≤ 65536; decide) hrdZ (h10.same s13)) ?_
  have et2 : putT (own1 X) ⟨owR 2 3 oa X.length oc, X⟩ = own2 X X := by unfold putT; rw [if_pos (oe_2 _ _ _ h0 h1), ow_2, List.append_nil]
  rw [et2, oe_2 _ _ _ h0 h1]
  rintro _ w16 ⟨rfl, h16⟩
  refine ⟨_, rfl, ?_⟩
  have h17 := h16.perm (List.Perm.swap _ _ _)
  obtain ⟨od, hoa⟩ := (h17.rd 0 rfl).some (by rw [inV_length]; omega)
  rw [hoa] at h17 ⊢
  refine ⟨X.length + 1, c3_3 (X := X) hX h1 X.length 0 w16 _ X (by omega) rfl rfl h17 (by omega) fun w20 Y hY h20 _g => ?_⟩
  simp only [rdC_mk, rdP_mk, rdI_mk]
  have h21 := h20.drop
  have k2 := ow_ok2 h0 h1
  refine cl (c13s (s := own2 X X) rfl k2.tot h21) ?_
  rintro _ w26 ⟨a1, c1, rfl, h26⟩
  refine exR38_of (R38.mk 0 0 0 true a1 X.length c1) ⟨true, rfl, ?_⟩
  refine h26.alc fun b30 w31 h31 => ?_
  refine h31.stcL 0 rfl rfl fun w32 h32 => ?_
  simp only [add_mk]
  refine h32.ldC 0 rfl rfl ?_
  have h33 : Hs W (slP 5 1 a1 X.length c1 (inV .u8 X) :: pt b30 (.cells (R38.mk 0 0 0 true a1 X.length c1).c 39 (0, 0)) :: [tabP tb (tot { own2 X X with M := [⟨0, 0, 0, false, X⟩] }) { own2 X X with M := [⟨0, 0, 0, false, X⟩] }]) w32 := h32.perm (List.perm_middle (l₁ := [_, _]))
  have k3 : OkB { own2 X X with M := [⟨0, 0, 0, false, X⟩] } := ok_take k2 rfl
  obtain ⟨md, hma⟩ := (h33.rd 0 rfl).some (by rw [inV_length]; omega)
  rw [hma] at h33
  refine ⟨X.length + 1, c3_2 (X := X) (m := R38.mk 0 0 0 true (some md) X.length c1) hX h1 ⟨rfl, rfl, rfl⟩ X.length 0 w32 _ X (by omega) rfl rfl h33 (by omega) fun w35 Y2 hY2 h35 _g => ?_⟩
  simp only [rdC_mk, rdP_mk, rdI_mk, rdA_mk]
  refine cl (c14s (cum := 0) k3 (h35.focus (i := 2) rfl)) ?_
  have e4 : fixS ({ own2 X X with M := [⟨0, 0, 0, false, X⟩] } : St).F 0 = [1, 2] := ow_fix
  rw [e4]
  rintro _ w42 ⟨la, lc, rfl, h42⟩
  refine ⟨_, _, _, rfl, ?_⟩
  refine ⟨3, c3_1 (n := 2) (by omega) 2 0 w42 _ [1, 2] (by omega) rfl h42 (by omega) fun w46 h46 _g => ?_⟩
  simp only [rdC_mk, rdP_mk, rdI_mk, rdA_mk]
  refine cl (c13s (s := { own2 X X with M := [⟨0, 0, 0, false, X⟩] }) rfl k3.tot h46) ?_
  rintro _ w53 ⟨a2, c2, rfl, h53⟩
  refine exR38_of (R38.mk 0 0 0 false a2 X.length c2) ⟨true, rfl, ?_⟩
  refine h53.alc fun b57 w58 h58 => ?_
  refine h58.stcL 0 rfl rfl fun w59 h59 => ?_
  have ez : ((0 : Int) == 0) = true := rfl
  rw [ez, br_true, br_true]
  have k4 : OkB { own2 X X with M := [] } := ok_take (s := { own2 X X with M := [⟨0, 0, 0, false, X⟩] }) (m := ⟨0, 0, 0, false, X⟩) (r := []) k3 rfl
  have h59 : Hs W (pt b57 (.cells (R38.mk 0 0 0 false a2 X.length c2).c 39 (0, 0)) :: tabP tb (tot { own2 X X with M := [] }) { own2 X X with M := [] } :: slP 5 1 a2 X.length c2 (inV .u8 X) :: slP 5 1 (some md) X.length c1 (inV .u8 Y2) :: pt b30 (.cells (R38.mk 0 0 0 true (some md) X.length c1).c 39 (0, 0)) :: []) w59 := h59
  simp only [add_mk]
  refine h59.ldC 4 rfl rfl ?_
  have el : ((X.length : Int) == (X.length : Int)) = true := by simp
  show br ((X.length : Int) == (X.length : Int)) _ _
  rw [el, br_true]
  refine h59.ldC 0 rfl rfl ?_
  refine ⟨_, _, run_str (bs := X) (h59.rd 2 rfl) hb, ?_⟩
  refine ⟨_, _, run_str (bs := X) (h59.rd_old hX) hb, ?_⟩
  have es : (ByteArray.toList (strOf X) == ByteArray.toList (strOf X)) = true := by simp
  rw [es, br_true]
  refine cl (c14s (cum := 0) k4 (h59.focus (i := 1) rfl)) ?_
  have e5 : fixS ({ own2 X X with M := [] } : St).F 0 = [1, 2] := ow_fix
  rw [e5]
  rintro _ w66 ⟨l2, lc2, rfl, h66⟩
  refine ⟨_, _, _, rfl, ?_⟩
  refine h66.alc fun b69 w70 h70 => ?_
  refine cl (c15 (x := [1, 2]) (y := [1, 2]) (h70.rd 1 rfl) (rd_blk (h70.at 0 rfl)) (by decide)) ?_
  rintro _ w71 ⟨rfl, s71⟩
  have ed : decide (([1, 2] : List Int) = [1, 2]) = true := by decide
  rw [ed]
  exact ⟨_, rfl, hK w71 (h70.same s71).old⟩
theorem c3 {xa : Option Addr} {xc : Nat} {X : List Int} (hX : Rd w xa (inV .u8 X)) (hb : ∀ x ∈ X, 0 ≤ x ∧ x < 256) : Calls Try.prog 3 #[.slice xa X.length xc] w (rt fun v w' => v = .bool true ∧ Same w w') := by
  refine F3_ok ?_
  unfold F3
  simp only [rdC_mk]
  refine cl (c9 (n := 1) (n2 := 1073741824) (by omega) (by omega) (Hs.start w)) ?_
  rintro _ w2 ⟨tb, rfl, h2⟩
  refine ⟨_, _, rfl, ?_⟩
  have e0 : ((0 : Int) != 0) = false := rfl
  rw [e0, br_false]
  simp only [Option.isNone_some, br_false]
  refine cl (c10 w2) ?_
  rintro _ w6 ⟨rfl, s6⟩
  refine ⟨_, rfl, ?_⟩
  have h6 := h2.same s6
  simp only [Bool.not_true, br_false]
  unfold F3_5
  simp only [rdC_mk, rdP_mk]
  have bad : (X.length = 0 ∨ 65531 < X.length) → Calls Try.prog 12 #[.int .u32 1, .int .u8 7, .int .u16 0, .int .u16 0, .slice xa X.length xc] w6 fun e4 w3 => exR35 fun s5 => e4 = .returned s5.v ∧ (Calls Try.prog 11 #[.pointer (some ⟨tb, 0, none⟩), s5.v] w3 fun e7 w6 => ∃ n8, e7 = .returned (.int .i64 n8) ∧ ∀ _g : Tm, rdB (.bool (n8 == 201)) fun b12 => Value.bool b12 = .bool true ∧ Same w w6) := by
    intro hbad
    refine cl (c12 1 7 0 0 _ _ _ w6) ?_
    rintro _ w7 ⟨rfl, s7⟩
    refine exR35_of (owR 1 7 xa X.length xc) ⟨rfl, ?_⟩
    refine cl (c11 (x := owR 1 7 xa X.length xc) (b := X) (newS_ok 1 1073741824) ⟨by show (0 : Int) ≤ 1 ∧ (1 : Int) < 4294967296; decide, by show (0 : Int) ≤ 0 ∧ (0 : Int) < 65536; decide⟩ rfl (by decide) (by decide) (fun w' h' => h'.rd_old hX) (h6.same s7)) ?_
    rw [oe_bad _ _ _ hbad]
    rintro _ w10 ⟨rfl, h10⟩
    refine ⟨_, rfl, fun _g => ?_⟩
    simp only [rdB_mk]
    exact ⟨rfl, h10.old⟩
  cases hl : ((X.length : Int) == 0) with
  | true =>
    rw [br_true]
    refine bad (.inl ?_)
    have : (X.length : Int) = 0 := by simpa using hl
    omega
  | false =>
    rw [br_false, br_dec]
    have hl0 : X.length ≠ 0 := by
      intro e
      rw [e] at hl
      cases hl
    refine ⟨fun h => bad (.inr (by omega)), fun h => ?_⟩
    refine c3_4 hX hb (fun e => hl0 (by rw [e]; rfl)) (by omega) h6 fun w' hs _g => ?_
    simp only [rdB_mk]
    intro _
    exact ⟨by first | rfl | trivial, hs⟩
end
end Go.Proofs.Ytaflmpbeonoilaa
