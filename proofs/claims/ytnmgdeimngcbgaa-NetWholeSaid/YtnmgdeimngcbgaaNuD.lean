/- Own text: part of the shallow reading of the code and of the contracts that are proved over it. -/
import Derived.Test.YtnmgdeimngcbgaaNuC
namespace Go.Proofs.Ytnmgdeimngcbgaa
open Go Go.Sh
section
variable {W w : World} {b rb : Nat} {n r : NT} {L M : List HP}
theorem t43 : flT Try.prog 43 [.int .i64, .int .i64, .int .i64, .bool] = true := by kernel_rfl
theorem t48 : flT Try.prog 48 [.int .i64, .int .i64, .int .i64, .int .i64] = true := by kernel_rfl
theorem flC_len (p : PK) : (flC p).length = 4 := rfl
theorem ref_len (h : Hs W (refP rb n :: L) w) {K : Option Addr → Nat → Nat → Prop} (hk : ∀ a c, K a n.down.length c) : ldC ⟨rb, 0 + 0, none⟩ w K := by
  obtain ⟨d, rfl, rfl, g⟩ := refP_open.1 h
  obtain ⟨ho, h1⟩ := rd_open.1 g
  refine h1.ldC 0 rfl rfl ?_
  have : d.rows.length = d.abs.down.length := ho.1.symm
  rw [this]
  exact hk _ _
theorem c15_fl {ps : List PK} {a a' : Option Addr} {c c' : Nat} {p1 p2 : Option Addr} {n3 n4 : Int} {K4 : Value → Value → Value → Value → World → Prop} {Kr : Value → World → Prop} (hm : ps.length ≤ 4096) : ∀ (i j : Nat) (w : World) (k : Nat), j + i = ps.length → Hs W (slP 43 4 a ps.length c (flV ps) :: slP 43 4 a' ps.length c' (flV ps) :: M) w → i < k →
    (∀ w', Hs W (slP 43 4 a ps.length c (flV ps) :: slP 43 4 a' ps.length c' (flV ps) :: M) w' → K4 (.pointer p1) (.pointer p2) (.int .i64 n3) (.int .i64 n4) w') →
    F15_1 K4 Kr k (.pointer p1) (.pointer p2) (.int .i64 n3) (.int .i64 n4) (.slice a ps.length c) (.slice a' ps.length c') (.int .i64 (j : Int)) w := by
  intro i
  induction i with
  | zero =>
    intro j w k hj hw hk hK
    obtain ⟨k, rfl⟩ : ∃ j, k = j + 1 := ⟨k - 1, by omega⟩
    show F15_1B _ _ _ _ _ _ _ _ _ _ _
    unfold F15_1B
    simp only [rdP_mk, rdC_mk, rdI_mk, br_dec]
    exact ⟨fun h => by exfalso; omega, fun _ => hK w hw⟩
  | succ i ih =>
    intro j w k hj hw hk hK
    obtain ⟨k, rfl⟩ : ∃ j, k = j + 1 := ⟨k - 1, by omega⟩
    show F15_1B _ _ _ _ _ _ _ _ _ _ _
    unfold F15_1B drw
    simp only [rdP_mk, rdC_mk, rdI_mk, br_dec]
    refine ⟨fun _ => ?_, fun h => by exfalso; omega⟩
    have hw := hw.drew
    generalize w.drew = w1 at hw ⊢
    obtain ⟨q, hq⟩ : ∃ x, ps[j]? = some x := ⟨ps[j]'(by omega), by simp⟩
    have hr := hw.rd 0 rfl
    have hr' := hw.rd 1 rfl
    obtain ⟨ad, ha⟩ := hr.some (by rw [flV_length]; omega)
    obtain ⟨ad', ha'⟩ := hr'.some (by rw [flV_length]; omega)
    have ih' := ih
    rw [ha] at hr
    rw [ha'] at hr'
    have g : ∀ {k : Nat} {v : Value}, (flC q)[k]? = some v → (flV ps)[j * 4 + k]? = some v := fun hv => flat_at flC_len hq hv
    have key : ixS 4 (some ad) ps.length (j : Int) fun a9 => ldI .i64 (a9.add 0) w1 fun n10 => ldI .i64 (a9.add 1) w1 fun n11 => ldI .i64 (a9.add 2) w1 fun n12 => ldB (a9.add 3) w1 fun b13 => ixS 4 (some ad') ps.length (j : Int) fun a14 => ldI .i64 (a14.add 0) w1 fun n15 => ldI .i64 (a14.add 1) w1 fun n16 => ldI .i64 (a14.add 2) w1 fun n17 => ldB (a14.add 3) w1 fun b18 => ∃ b19 w20, Sem.run Try.prog (binF Try.prog .neq 43 (.tmp 101) (.tmp 105) (.agg #[(.int .i64 n10), (.int .i64 n11), (.int .i64 n12), (.bool b13)]) (.agg #[(.int .i64 n15), (.int .i64 n16), (.int .i64 n17), (.bool b18)])) w1 = .ok (.bool b19) w20 ∧ (br b19 (Kr (.bool false) w20) (F15_1 K4 Kr k (.pointer p1) (.pointer p2) (.int .i64 n3) (.int .i64 n4) (.slice a ps.length c) (.slice a' ps.length c') (.int .i64 (IntKind.wrap .i64 ((j : Int) + 1))) w20)) := by
      refine ixS_of (by omega) (by omega) ?_
      simp only [Int.toNat_natCast, add_add]
      refine ldI_c (hr.at (g rfl)) (ldI_c (hr.at (g rfl)) (ldI_c (hr.at (g rfl)) (ldB_c (hr.at (g rfl)) (ixS_of (by omega) (by omega) ?_))))
      simp only [Int.toNat_natCast, add_add]
      refine ldI_c (hr'.at (g rfl)) (ldI_c (hr'.at (g rfl)) (ldI_c (hr'.at (g rfl)) (ldB_c (hr'.at (g rfl)) ?_)))
      have hm : mL [.int .i64, .int .i64, .int .i64, .bool] [.int .i64 q.id, .int .i64 q.now, .int .i64 (q.bytes.length : Int), .bool q.forged] := ⟨⟨_, rfl⟩, ⟨_, rfl⟩, ⟨_, rfl⟩, ⟨_, rfl⟩, trivial⟩
      refine ⟨_, _, neq_flat t43 hm hm, ?_⟩
      rw [eqvs_self hm, Bool.not_true, br_false]
      have e1 : IntKind.wrap .i64 ((j : Int) + 1) = ((j + 1 : Nat) : Int) := by rw [wrap_i64 (by omega) (by omega)]; omega
      rw [e1]
      exact ih' (j + 1) w1 k (by omega) hw (by omega) hK
    rw [ha, ha'] at key ⊢
    exact key
def NT.small (n : NT) : Prop := ∀ l ∈ n.lanes, l.ps.length ≤ 4096
theorem net_small (h : Hs W (netP b n :: L) w) : n.small := by
  obtain ⟨d, rfl, rfl, g⟩ := netP_open.1 h
  intro l hl
  obtain ⟨x, hx, rfl⟩ := List.mem_map.1 hl
  simpa [La.abs] using ((net_of g).lanes x hx).many
theorem fl_small (h : n.small) (e p : Int) : (n.fl e p).length ≤ 4096 := by
  unfold NT.fl NT.ps
  split
  · cases hl : n.lanes[idx e p]? with
    | none => simp
    | some l => simpa using h l (List.mem_of_getElem? hl)
  · simp
theorem c15_end {p : Int} {K2 : Value → Value → Value → World → Prop} {Kr : Value → World → Prop} (hp : -1 ≤ p ∧ p ≤ 8) : ∀ (i : Nat) (e : Int) (w : World) (k : Nat), 0 ≤ e → e + i = 3 → Hs W (netP b n :: refP rb n :: L) w → i < k →
    (∀ w', Hs W (netP b n :: refP rb n :: L) w' → K2 (.pointer (some ⟨b, 0, none⟩)) (.pointer (some ⟨rb, 0, none⟩)) (.int .i64 p) w') →
    F15_3 K2 Kr k (.pointer (some ⟨b, 0, none⟩)) (.pointer (some ⟨rb, 0, none⟩)) (.int .i64 p) (.int .i64 e) w := by
  intro i
  induction i with
  | zero =>
    intro e w k he hj hw hk hK
    obtain ⟨k, rfl⟩ : ∃ j, k = j + 1 := ⟨k - 1, by omega⟩
    show F15_3B _ _ _ _ _ _ _ _
    unfold F15_3B
    simp only [rdP_mk, rdI_mk, br_dec]
    exact ⟨fun h => by exfalso; omega, fun _ => hK w hw⟩
  | succ i ih =>
    intro e w k he hj hw hk hK
    obtain ⟨k, rfl⟩ : ∃ j, k = j + 1 := ⟨k - 1, by omega⟩
    show F15_3B _ _ _ _ _ _ _ _
    unfold F15_3B
    simp only [rdP_mk, rdI_mk, br_dec]
    refine ⟨fun _ => ?_, fun h => by exfalso; omega⟩
    have hsm := fl_small (net_small hw) e p
    refine cl (s11 hw e p) ?_
    rintro _ w1 ⟨a1, c1, rfl, h1, _⟩
    refine ⟨_, _, _, _, rfl, ?_⟩
    have h2 : Hs W (refP rb n :: slP 43 4 a1 (n.fl e p).length c1 (flV (n.fl e p)) :: netP b n :: L) w1 := h1.focus (i := 2) rfl
    refine cl (r38 h2 e p) ?_
    rintro _ w2 ⟨a2, c2, rfl, h3⟩
    refine ⟨_, _, _, _, rfl, ?_⟩
    have h4 : Hs W (netP b n :: slP 43 4 a2 (n.fl e p).length c2 (flV (n.fl e p)) :: refP rb n :: slP 43 4 a1 (n.fl e p).length c1 (flV (n.fl e p)) :: L) w2 := h3.focus (i := 3) rfl
    refine cl (s13 h4 e p) ?_
    rintro _ w3 ⟨rfl, s3⟩
    refine ⟨_, _, _, _, _, rfl, ?_⟩
    have h5 := h4.same s3
    simp only [add_mk]
    refine h5.alc fun bt w4 h6 => h6.stc 0 rfl (by simp) fun w5 h7 => h7.stc 0 rfl (by simp) fun w6 h8 => h8.stc 0 rfl (by simp) fun w7 h9 => h9.stc 0 rfl (by simp) fun w8 h10 => ?_
    obtain ⟨t, ht⟩ : ∃ t, t = n.trf e p := ⟨_, rfl⟩
    have h11 : Hs W (refP rb n :: pt bt (.cells #[.int .i64 t.1, .int .i64 t.2.1, .int .i64 t.2.2.1, .int .i64 t.2.2.2] 48) :: netP b n :: slP 43 4 a2 (n.fl e p).length c2 (flV (n.fl e p)) :: slP 43 4 a1 (n.fl e p).length c1 (flV (n.fl e p)) :: L) w8 := by
      rw [ht]; exact h10.focus (i := 3) rfl
    clear h10 h9 h8 h7 h6 h5 h4 h3 h2 h1
    refine cl (r39 h11 e p) ?_
    rintro _ w9 ⟨rfl, h12⟩
    refine ⟨_, _, _, _, _, rfl, ?_⟩
    refine h12.alc fun bu w10 h13 => h13.stc 0 rfl (by simp) fun w11 h14 => h14.stc 0 rfl (by simp) fun w12 h15 => h15.stc 0 rfl (by simp) fun w13 h16 => h16.stc 0 rfl (by simp) fun w14 h17 => ?_
    have h18 : Hs W (pt bu (.cells #[.int .i64 t.1, .int .i64 t.2.1, .int .i64 t.2.2.1, .int .i64 t.2.2.2] 48) :: refP rb n :: pt bt (.cells #[.int .i64 t.1, .int .i64 t.2.1, .int .i64 t.2.2.1, .int .i64 t.2.2.2] 48) :: netP b n :: slP 43 4 a2 (n.fl e p).length c2 (flV (n.fl e p)) :: slP 43 4 a1 (n.fl e p).length c1 (flV (n.fl e p)) :: L) w14 := by
      rw [← ht] at h17; exact h17
    clear h17 h16 h15 h14 h13 h12 h11
    have e1 : (n.err e p != n.err e p) = false := by simp
    rw [e1]
    simp only [br_false]
    refine h18.ldI 2 rfl rfl (h18.ldI 2 rfl rfl (h18.ldI 2 rfl rfl (h18.ldI 2 rfl rfl (h18.ldI 0 rfl rfl (h18.ldI 0 rfl rfl (h18.ldI 0 rfl rfl (h18.ldI 0 rfl rfl ?_)))))))
    have hm : mL [.int .i64, .int .i64, .int .i64, .int .i64] [.int .i64 t.1, .int .i64 t.2.1, .int .i64 t.2.2.1, .int .i64 t.2.2.2] := ⟨⟨_, rfl⟩, ⟨_, rfl⟩, ⟨_, rfl⟩, ⟨_, rfl⟩, trivial⟩
    refine ⟨_, _, neq_flat t48 hm hm, ?_⟩
    have e2 : (((n.fl e p).length : Int) != ((n.fl e p).length : Int)) = false := by simp
    rw [eqvs_self hm, Bool.not_true, br_false, e2, br_false]
    unfold F15_2
    simp only [rdP_mk, rdC_mk, rdI_mk]
    have h19 : Hs W (slP 43 4 a1 (n.fl e p).length c1 (flV (n.fl e p)) :: slP 43 4 a2 (n.fl e p).length c2 (flV (n.fl e p)) :: pt bu (.cells #[.int .i64 t.1, .int .i64 t.2.1, .int .i64 t.2.2.1, .int .i64 t.2.2.2] 48) :: refP rb n :: pt bt (.cells #[.int .i64 t.1, .int .i64 t.2.1, .int .i64 t.2.2.1, .int .i64 t.2.2.2] 48) :: netP b n :: L) w14 := Hs.focus (i := 5) (h18.focus (i := 4) rfl) rfl
    refine ⟨(n.fl e p).length + 1, c15_fl (M := pt bu (.cells #[.int .i64 t.1, .int .i64 t.2.1, .int .i64 t.2.2.1, .int .i64 t.2.2.2] 48) :: refP rb n :: pt bt (.cells #[.int .i64 t.1, .int .i64 t.2.1, .int .i64 t.2.2.1, .int .i64 t.2.2.2] 48) :: netP b n :: L) hsm (n.fl e p).length 0 w14 ((n.fl e p).length + 1) (by omega) h19 (by omega) fun w15 h20 _g => ?_⟩
    simp only [rdP_mk, rdI_mk]
    intro _g
    have ew : IntKind.wrap .i64 (e + 1) = e + 1 := wrap_i64 (by omega) (by omega)
    rw [ew]
    refine ih (e + 1) w15 k (by omega) (by omega) ?_ (by omega) hK
    have h21 : Hs W (refP rb n :: netP b n :: L) w15 := ((((h20.erase 0).erase 0).erase 0).erase 1)
    exact h21.focus (i := 1) rfl
theorem c15 (h : Hs W (netP b n :: refP rb n :: L) w) (hd : n.down.length ≤ 8) : Calls Try.prog 15 #[.pointer (some ⟨b, 0, none⟩), .pointer (some ⟨rb, 0, none⟩)] w (rt fun v w' => v = .bool true ∧ Hs W (netP b n :: refP rb n :: L) w') := by
  refine F15_ok ?_
  unfold F15 drw
  simp only [rdP_mk, nn_some, add_mk]
  have h1 := h.drew
  generalize w.drew = w1 at h1 ⊢
  have hr : ∀ {w' : World}, Hs W (netP b n :: refP rb n :: L) w' → Hs W (refP rb n :: netP b n :: L) w' := fun h => h.focus (i := 1) rfl
  refine ⟨w1, Pres.refl _, ref_len (hr h1) fun a c => clr (s23 h1) ⟨_, rfl, Pres.refl _, ?_⟩⟩
  have e1 : (((n.down.length : Nat) : Int) != ((n.down.length : Nat) : Int)) = false := by simp
  rw [e1, br_false]
  have loop : ∀ (i : Nat) (p : Int) (w : World) (k : Nat) (K0 : World → Prop) (Kr : Value → World → Prop), -1 ≤ p → p + i = n.down.length + 1 → Hs W (netP b n :: refP rb n :: L) w → i < k → (∀ w', Hs W (netP b n :: refP rb n :: L) w' → K0 w') →
      F15_4 K0 Kr k (.pointer (some ⟨b, 0, none⟩)) (.pointer (some ⟨rb, 0, none⟩)) (.int .i64 p) w := by
    intro i
    induction i with
    | zero =>
      intro p w k K0 Kr hp hj hw hk hK
      obtain ⟨k, rfl⟩ : ∃ j, k = j + 1 := ⟨k - 1, by omega⟩
      show F15_4B _ _ _ _ _ _ _
      unfold F15_4B
      simp only [rdP_mk, rdI_mk, nn_some, add_mk]
      refine ref_len (hr hw) fun a c => ?_
      simp only [br_dec]
      exact ⟨fun h => by exfalso; omega, fun _ => hK w hw⟩
    | succ i ih =>
      intro p w k K0 Kr hp hj hw hk hK
      obtain ⟨k, rfl⟩ : ∃ j, k = j + 1 := ⟨k - 1, by omega⟩
      show F15_4B _ _ _ _ _ _ _
      unfold F15_4B
      simp only [rdP_mk, rdI_mk, nn_some, add_mk]
      refine ref_len (hr hw) fun a c => ?_
      simp only [br_dec]
      refine ⟨fun _ => ?_, fun h => by exfalso; omega⟩
      refine clr (s22 hw p) ⟨_, rfl, clr (r37 (hr hw) p) ⟨_, rfl, ?_⟩⟩
      rw [beq_self_eq_true, Bool.not_true, br_false]
      refine ⟨4, c15_end (L := L) ⟨hp, by omega⟩ 3 0 w 4 (by omega) (by omega) hw (by omega) fun w2 h2 _g => ?_⟩
      simp only [rdP_mk, rdI_mk]
      have ew : IntKind.wrap .i64 (p + 1) = p + 1 := wrap_i64 (by omega) (by omega)
      rw [ew]
      exact ih (p + 1) w2 k K0 Kr (by omega) (by omega) h2 (by omega) hK
  refine ⟨n.down.length + 3, loop (n.down.length + 2) (-1) w1 _ _ _ (by omega) (by omega) h1 (by omega) fun w2 h2 _g => ⟨trivial, h2⟩⟩
end
end Go.Proofs.Ytnmgdeimngcbgaa
