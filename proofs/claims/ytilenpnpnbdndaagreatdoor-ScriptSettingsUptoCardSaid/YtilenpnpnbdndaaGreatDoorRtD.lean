/- Own text: part of the shallow reading of the code and of the contracts that are proved over it. -/
import Derived.Test.YtilenpnpnbdndaaGreatDoorRtB
import Derived.Test.YtilenpnpnbdndaaGreatDoorSrQ3
/-
  The document's settings as a line: fns 42, 43, 15.
-/
namespace Go.Proofs.YtilenpnpnbdndaaGreatDoor
open Go Go.Sh
set_option maxRecDepth 100000
attribute [local instance] Esc.none
def intsOf (R : R49) : List Int := [R.f17, R.f18, R.f19, R.f20, R.f21, R.f22, R.f23, R.f24, R.f25, R.f26, R.f27, R.f28, R.f29, R.f30, R.f31, R.f32, R.f33, R.f34, R.f35, R.f36, R.f37, bitN R.f38, bitN R.f39, bitN R.f40]
def confNames : List ByteArray := [⟨#[108, 105, 102, 101]⟩, ⟨#[119, 105, 110, 100, 111, 119]⟩, ⟨#[111, 117, 116]⟩, ⟨#[105, 110]⟩, ⟨#[116, 114, 105, 101, 115]⟩, ⟨#[108, 97, 115, 116, 115]⟩, ⟨#[112, 111, 114, 116]⟩, ⟨#[112, 101, 101, 114]⟩, ⟨#[112, 97, 116, 104, 115]⟩, ⟨#[109, 116, 117]⟩, ⟨#[98, 117, 102, 102, 101, 114]⟩, ⟨#[105, 110, 105, 116]⟩, ⟨#[109, 105, 110]⟩, ⟨#[109, 97, 120]⟩, ⟨#[101, 114, 114, 111, 114, 115]⟩, ⟨#[102, 97, 105, 108]⟩, ⟨#[112, 97, 117, 115, 101]⟩, ⟨#[109, 111, 115, 116]⟩, ⟨#[100, 101, 108, 97, 121]⟩, ⟨#[115, 99, 104, 101, 100]⟩, ⟨#[99, 97, 112]⟩, ⟨#[115, 112, 108, 105, 116]⟩, ⟨#[110, 114]⟩, ⟨#[99, 111, 117, 112, 108, 101]⟩]
def pairs : List ByteArray → List Int → List ByteArray
  | n :: ns, x :: xs => n :: dec x :: pairs ns xs
  | _, _ => []
def headOf (R : R49) : List ByteArray := [⟨#[99, 111, 110, 102]⟩, ⟨#[115, 101, 101, 100]⟩, dec R.f16, ⟨#[107, 101, 121]⟩, bs (hexW (keyAt R.c))]
def numOk (n : Int) : Prop := 0 ≤ n ∧ n ≤ 1099511627776
instance (n : Int) : Decidable (numOk n) := by unfold numOk; infer_instance
theorem dec_bit (b : Bool) : dec (bitN b) = if b then ⟨#[49]⟩ else ⟨#[48]⟩ := by
  cases b
  · show bs (Lib.decDigits 0) = _
    rw [Lib.decDigits, dif_pos (by omega)]
    rfl
  · show bs (Lib.decDigits 1) = _
    rw [Lib.decDigits, dif_pos (by omega)]
    rfl
theorem conf_words (R : R49) : confItems.map (wd ⟨R.c, []⟩) = headOf R ++ pairs confNames (intsOf R) := by
  have e : ∀ (b : Bool), (if b = true then (⟨#[49]⟩ : ByteArray) else ⟨#[48]⟩) = dec (bitN b) := fun b => (dec_bit b).symm
  show [_, _, _, _, _, _, _, _, _, _, _, _, _, _, _, _, _, _, _, _, _, _, _, _, _, _, _, _, _, _, _, _, _, _, _, _, _, _, _, _, _, _, _, _, _, _, _, _, (if R.f38 = true then (⟨#[49]⟩ : ByteArray) else ⟨#[48]⟩), _, (if R.f39 = true then (⟨#[49]⟩ : ByteArray) else ⟨#[48]⟩), _, (if R.f40 = true then (⟨#[49]⟩ : ByteArray) else ⟨#[48]⟩)] = _
  rw [e, e, e]
  rfl
theorem conf_ok {R : R49} (hG : GoodC R.c) : okAll confItems ⟨R.c, []⟩ ↔ ∀ n ∈ intsOf R, numOk n := by
  obtain ⟨g16, g18, g19, g20, g23, g24, _⟩ := hG
  have g18 : 0 ≤ R.f18 ∧ R.f18 ≤ 4294967295 := g18
  have g19 : 0 ≤ R.f19 ∧ R.f19 ≤ 65535 := g19
  have g20 : 0 ≤ R.f20 ∧ R.f20 ≤ 65535 := g20
  have g23 : 0 ≤ R.f23 ∧ R.f23 ≤ 65535 := g23
  have g24 : 0 ≤ R.f24 ∧ R.f24 ≤ 65535 := g24
  have hb : ∀ b, numOk (bitN b) := fun b => by cases b <;> decide
  constructor
  · intro h
    have hi : ∀ (i o m : Nat) (k : IntKind), confItems[i]? = some (.num o k m) → 0 ≤ iAt R.c o ∧ iAt R.c o ≤ (m : Int) := fun i o m k e => h _ (List.mem_of_getElem? e)
    intro n hn
    simp only [intsOf, List.mem_cons, List.not_mem_nil, or_false] at hn
    rcases hn with rfl | rfl | rfl | rfl | rfl | rfl | rfl | rfl | rfl | rfl | rfl | rfl | rfl | rfl | rfl | rfl | rfl | rfl | rfl | rfl | rfl | rfl | rfl | rfl
    · exact hi 6 17 _ _ rfl
    · exact ⟨g18.1, by omega⟩
    · exact ⟨g19.1, by omega⟩
    · exact ⟨g20.1, by omega⟩
    · exact hi 14 21 _ _ rfl
    · exact hi 16 22 _ _ rfl
    · exact ⟨g23.1, by omega⟩
    · exact ⟨g24.1, by omega⟩
    · exact hi 22 25 _ _ rfl
    · exact hi 24 26 _ _ rfl
    · exact hi 26 27 _ _ rfl
    · exact hi 28 28 _ _ rfl
    · exact hi 30 29 _ _ rfl
    · exact hi 32 30 _ _ rfl
    · exact hi 34 31 _ _ rfl
    · exact hi 36 32 _ _ rfl
    · exact hi 38 33 _ _ rfl
    · exact hi 40 34 _ _ rfl
    · exact hi 42 35 _ _ rfl
    · exact hi 44 36 _ _ rfl
    · exact hi 46 37 _ _ rfl
    · exact hb _
    · exact hb _
    · exact hb _
  · intro h it hi
    simp only [intsOf, List.forall_mem_cons] at h
    obtain ⟨h17, _, _, _, h21, h22, _, _, h25, h26, h27, h28, h29, h30, h31, h32, h33, h34, h35, h36, h37, _⟩ := h
    simp only [confItems, List.mem_cons, List.not_mem_nil, or_false] at hi
    rcases hi with rfl | rfl | rfl | rfl | rfl | rfl | rfl | rfl | rfl | rfl | rfl | rfl | rfl | rfl | rfl | rfl | rfl | rfl | rfl | rfl | rfl | rfl | rfl | rfl | rfl | rfl | rfl | rfl | rfl | rfl | rfl | rfl | rfl | rfl | rfl | rfl | rfl | rfl | rfl | rfl | rfl | rfl | rfl | rfl | rfl | rfl | rfl | rfl | rfl | rfl | rfl | rfl | rfl
    all_goals first | trivial | assumption
section
variable {W w : World} {M : List HP}
theorem c43 (h : Hs W M w) : Calls Tryz.prog 43 #[] w (rt fun v w' => ∃ b, v = .slice (some ⟨b, 0, none⟩) 24 24 ∧ Hs W (pt b (.cells (nmV confNames) 9 (0, 0)) :: M) w') := by
  refine F43_ok ?_
  unfold F43
  refine h.alc fun b w2 h2 => ?_
  exact ⟨b, rfl, h2⟩
theorem c42 {R : R49} (h : Hs W M w) (hG : GoodC R.c) : Calls Tryz.prog 42 #[R.v] w (rt fun v w' => ∃ b, v = .slice (some ⟨b, 0, none⟩) 24 24 ∧ Hs W (pt b (.cells (iV (intsOf R)).toArray 3 (0, 0)) :: M) w') := by
  obtain ⟨_, g18, g19, g20, g23, g24, _⟩ := hG
  have g18 : 0 ≤ R.f18 ∧ R.f18 ≤ 4294967295 := g18
  have g19 : 0 ≤ R.f19 ∧ R.f19 ≤ 65535 := g19
  have g20 : 0 ≤ R.f20 ∧ R.f20 ≤ 65535 := g20
  have g23 : 0 ≤ R.f23 ∧ R.f23 ≤ 65535 := g23
  have g24 : 0 ≤ R.f24 ∧ R.f24 ≤ 65535 := g24
  refine F42_ok ?_
  unfold F42
  refine exR49_of R ⟨rfl, ?_⟩
  refine h.alc fun b w2 h2 => h2.drw fun w4 h4 => ⟨w4, Go.Sh.Pres.refl _, ?_⟩
  refine h4.ldI 0 rfl rfl (h4.ldI 0 rfl rfl (h4.ldI 0 rfl rfl (h4.ldI 0 rfl rfl (h4.ldI 0 rfl rfl (h4.ldI 0 rfl rfl (h4.ldI 0 rfl rfl (h4.ldI 0 rfl rfl (h4.ldI 0 rfl rfl (h4.ldI 0 rfl rfl (h4.ldI 0 rfl rfl (h4.ldI 0 rfl rfl (h4.ldI 0 rfl rfl (h4.ldI 0 rfl rfl (h4.ldI 0 rfl rfl (h4.ldI 0 rfl rfl (h4.ldI 0 rfl rfl (h4.ldI 0 rfl rfl (h4.ldI 0 rfl rfl (h4.ldI 0 rfl rfl (h4.ldI 0 rfl rfl ?_))))))))))))))))))))
  refine h4.ldB 0 rfl rfl (h4.ldB 0 rfl rfl (h4.ldB 0 rfl rfl ?_))
  refine clr c64 ⟨_, rfl, Go.Sh.Pres.refl _, ?_⟩
  refine clr c64 ⟨_, rfl, Go.Sh.Pres.refl _, ?_⟩
  refine clr c64 ⟨_, rfl, Go.Sh.Pres.refl _, ?_⟩
  have e1 : IntKind.wrap .i64 R.f18 = R.f18 := wrap_i64 (by omega) (by omega)
  have e2 : IntKind.wrap .i64 R.f19 = R.f19 := wrap_i64 (by omega) (by omega)
  have e3 : IntKind.wrap .i64 R.f20 = R.f20 := wrap_i64 (by omega) (by omega)
  have e4 : IntKind.wrap .i64 R.f23 = R.f23 := wrap_i64 (by omega) (by omega)
  have e5 : IntKind.wrap .i64 R.f24 = R.f24 := wrap_i64 (by omega) (by omega)
  rw [e1, e2, e3, e4, e5]
  refine h4.alc fun b2 w5 h5 => ?_
  exact ⟨b2, rfl, h5.erase 1⟩
end
end Go.Proofs.YtilenpnpnbdndaaGreatDoor
/-
  The document's settings as a line: fn 15.
-/
namespace Go.Proofs.YtilenpnpnbdndaaGreatDoor
open Go Go.Sh
set_option maxRecDepth 100000
attribute [local instance] Esc.none
theorem sp_word {ws : List ByteArray} {x : ByteArray} (h0 : ws ≠ []) : bs (bl (bs (bl (joined ws) ++ bl ⟨#[32]⟩)) ++ bl x) = joined (ws ++ [x]) := by
  rw [joined_snoc _ h0, bl_bs]
  show bs (bl (joined ws) ++ [32] ++ bl x) = _
  simp
theorem sp_size {ws : List ByteArray} : (bs (bl (joined ws) ++ bl ⟨#[32]⟩)).size = (joined ws).size + 1 := by
  rw [← bl_len, bl_bs, List.length_append, bl_len]; rfl
theorem dec_size {n : Int} (h : numOk n) : (dec n).size ≤ 20 := by
  obtain ⟨h0, h1⟩ := h
  unfold dec
  rw [← bl_len, bl_bs, Lib.decDigits_length]
  exact Lib.nDigits_le20 _ (by omega)
theorem itoa_dec {n : Int} (h : 0 ≤ n) : bs (Lib.itoa n) = dec n := by unfold Lib.itoa; rw [if_neg (by omega)]; rfl
section
variable {W w : World} {M : List HP}
theorem F15_loop {ia na : Addr} {ints : List Int} {names : List ByteArray} {K0 : Value → World → Prop} {Kr : Value → Value → World → Prop} (hT : TB W) (hl : ints.length = 24) (hns : ∀ n ∈ names, n.size ≤ 100)
    (hrI : ∀ w', Hs W M w' → Rd w' (some ia) (iV ints)) (hrN : ∀ w', Hs W M w' → Rd w' (some na) (wsV names)) :
    ∀ (x2 x1 : List Int) (n2 n1 : List ByteArray) (k : Nat) (ws : List ByteArray) (w : World), ints = x1 ++ x2 → names = n1 ++ n2 → x1.length = n1.length → x2.length = n2.length → x2.length < k → ws ≠ [] → (joined ws).size + 200 * x2.length ≤ 100000000 → Hs W M w →
      (∀ w', (∀ n ∈ x2, numOk n) → Hs W M w' → K0 (.string (joined (ws ++ pairs n2 x2))) w') → (∀ w', ¬ (∀ n ∈ x2, numOk n) → Hs W M w' → Kr (.string ⟨#[]⟩) (.int .i64 1) w') →
      F15_2 K0 Kr k (.string (joined ws)) (.slice (some ia) 24 24) (.slice (some na) 24 24) (.int .i64 (x1.length : Int)) w := by
  intro x2
  induction x2 with
  | nil =>
    intro x1 n2 n1 k ws w hx hn h1 h2 hk h0 hsz h hK hR
    obtain ⟨k, rfl⟩ : ∃ i, k = i + 1 := ⟨k - 1, by omega⟩
    rw [List.append_nil] at hx
    subst hx
    have : n2 = [] := List.length_eq_zero_iff.1 h2.symm
    subst this
    show F15_2B _ _ _ _ _ _ _ _
    unfold F15_2B
    simp only [rdS_mk, rdC_mk, rdI_mk]
    rw [hl, decide_eq_false (by decide), br_false]
    have := hK w (by simp) h
    simpa [pairs] using this
  | cons x x2 ih =>
    intro x1 n2 n1 k ws w hx hn h1 h2 hk h0 hsz h hK hR
    obtain ⟨k, rfl⟩ : ∃ i, k = i + 1 := ⟨k - 1, by omega⟩
    obtain ⟨nm, n2, rfl⟩ : ∃ a b, n2 = a :: b := by cases n2 with | nil => simp at h2 | cons a b => exact ⟨a, b, rfl⟩
    have hln : x2.length = n2.length := by simpa using h2
    have hlen : x1.length + (x2.length + 1) = 24 := by rw [← hl, hx]; simp
    simp only [List.length_cons] at hsz
    have hnm := hns nm (by rw [hn]; simp)
    show F15_2B _ _ _ _ _ _ _ _
    unfold F15_2B
    simp only [rdS_mk, rdC_mk, rdI_mk]
    rw [decide_eq_true (by omega), br_true, br_true]
    unfold F15_1
    simp only [rdS_mk, rdC_mk, rdI_mk]
    refine ixS_to (p := x1.length) rfl (by omega) ?_
    rw [Nat.mul_one]
    refine ldI_c (n := x) ((hrI w h).at (by rw [hx]; simp [iV])) ?_
    refine clr c30 ⟨_, rfl, ?_⟩
    by_cases hok : numOk x
    · have e1 : decide (0 ≤ x ∧ x ≤ 1099511627776) = true := decide_eq_true hok
      rw [e1, Bool.not_true, br_false]
      refine h.drw fun w2 h2 => ⟨w2, Go.Sh.Pres.refl _, ?_⟩
      refine cat_of (by show _ + 1 ≤ _; omega) ?_
      refine ixS_to (p := x1.length) rfl (by omega) ?_
      rw [Nat.mul_one]
      refine ldS_c (n := nm) ((hrN w2 h2).at (by rw [hn, h1]; simp [wsV])) ?_
      refine cat_of (by rw [sp_size]; omega) ?_
      rw [sp_word h0]
      have hs1 := joined_snoc_size nm h0
      refine cat_of (by show _ + 1 ≤ _; omega) ?_
      refine ixS_to (p := x1.length) rfl (by omega) ?_
      rw [Nat.mul_one]
      refine ldI_c (n := x) ((hrI w2 h2).at (by rw [hx]; simp [iV])) ?_
      have hok2 := hok
      obtain ⟨hx0, hx1⟩ := hok2
      refine cl (c44 (Hs.tb h2 hT) (by omega) (by omega)) ?_
      rintro _ w3 ⟨rfl, hs⟩
      refine ⟨_, rfl, Go.Sh.Pres.of_Same hs, ?_⟩
      rw [itoa_dec hx0]
      have hds := dec_size hok
      refine cat_of (by rw [sp_size]; omega) ?_
      rw [sp_word (by simp)]
      intro _
      have e3 : IntKind.wrap .i64 ((x1.length : Int) + 1) = (((x1 ++ [x]).length : Nat) : Int) := by rw [wrap_i64 (by omega) (by omega)]; simp
      rw [e3]
      refine ih (x1 ++ [x]) n2 (n1 ++ [nm]) k (ws ++ [nm] ++ [dec x]) w3 (by rw [hx]; simp) (by rw [hn]; simp) (by simp [h1]) hln (by simp at hk; omega) (by simp) ?_ (h2.same hs) (fun w' hall h' => ?_) (fun w' hall h' => ?_)
      · rw [joined_snoc_size _ (by simp), hs1]; omega
      · have := hK w' (by simpa using ⟨hok, hall⟩) h'
        simpa [pairs] using this
      · exact hR w' (fun hh => hall fun n hn => hh n (by simp [hn])) h'
    · have e1 : decide (0 ≤ x ∧ x ≤ 1099511627776) = false := decide_eq_false hok
      rw [e1, Bool.not_false, br_true]
      intro _
      exact hR w (fun hh => hok (hh x (by simp))) h
theorem key_rd {b : Nat} {cs : Array Value} {T : TypeId} (hk : KeyOk cs) {L : List HP} {w : World} {i : Nat} (h : Hs W L w) (hi : L[i]? = some (pt b (.cells cs T (0, 0)))) : Rd w (some ⟨b, 0, none⟩) (u8v (keyAt cs)) := fun j u hj => by
  refine ⟨_, rfl, ?_⟩
  rw [add_mk, cell_at (h.at i hi), Nat.zero_add, ← Array.getElem?_toList]
  have hj16 : j < 16 := by
    have := (List.getElem?_eq_some_iff.1 hj).1
    rwa [u8v_len, keyAt_len] at this
  rw [← hk, List.getElem?_take_of_lt hj16] at hj
  exact hj
theorem F15_3_go {R : R49} {b : Nat} {Kr : Value → Value → World → Prop} (hT : TB W) (hG : GoodC R.c) (h : Hs W (pt b (.cells R.c 50 (0, 0)) :: M) w) (hsz : (joined (headOf R)).size ≤ 1000)
    (hK : ∀ w', okAll confItems ⟨R.c, []⟩ → Hs W (pt b (.cells R.c 50 (0, 0)) :: M) w' → Kr (.string (lineOf confItems ⟨R.c, []⟩)) (.int .i64 0) w')
    (hR : ∀ w', ¬ okAll confItems ⟨R.c, []⟩ → Hs W (pt b (.cells R.c 50 (0, 0)) :: M) w' → Kr (.string ⟨#[]⟩) (.int .i64 1) w') :
    F15_3 Kr (.pointer (some ⟨b, 0, none⟩)) (.string (joined (headOf R))) w := by
  unfold F15_3
  simp only [rdA_mk, rdS_mk]
  refine ldR49_of (s := R) (h.atL 0 rfl) ?_
  refine cl (c42 h hG) ?_
  rintro _ w2 ⟨ib, rfl, h2⟩
  refine ⟨_, _, _, rfl, ?_⟩
  refine cl (c43 h2) ?_
  rintro _ w3 ⟨nb, rfl, h3⟩
  refine ⟨_, _, _, rfl, 25, ?_⟩
  refine F15_loop (W := W) (M := pt nb (.cells (nmV confNames) 9 (0, 0)) :: pt ib (.cells (iV (intsOf R)).toArray 3 (0, 0)) :: pt b (.cells R.c 50 (0, 0)) :: M) hT (by rfl) (by decide) (fun w' h' => rd_blk (h'.at 1 rfl)) (fun w' h' => rd_blk (cs := wsV confNames) (h'.at 0 rfl)) (intsOf R) [] confNames [] 25 (headOf R) w3 rfl rfl rfl rfl (by show 24 < 25; omega) (by simp [headOf]) (by have : (intsOf R).length = 24 := rfl; omega) h3 (fun w' hall h' => ?_) (fun w' hall h' => ?_)
  · intro _
    simp only [rdS_mk]
    have := hK w' ((conf_ok hG).2 hall) h'.drop.drop
    unfold lineOf at this
    rw [conf_words] at this
    exact this
  · intro _
    simp only [rdS_mk, rdI_mk]
    exact hR w' (fun ho => hall ((conf_ok hG).1 ho)) h'.drop.drop
theorem head_size {R : R49} (h16 : 0 ≤ R.f16 ∧ R.f16 ≤ 18446744073709551615) : (dec R.f16).size ≤ 20 ∧ (bs (hexW (keyAt R.c))).size ≤ 33 := by
  constructor
  · unfold dec
    rw [← bl_len, bl_bs, Lib.decDigits_length]
    exact Lib.nDigits_le20 _ (by omega)
  · rw [← bl_len, bl_bs]
    have := hexW_len (keyAt R.c)
    rw [keyAt_len] at this
    omega
theorem head_join (R : R49) : joined (headOf R) = bs (bl (bs (bl (bs (bl ⟨#[99, 111, 110, 102, 32, 115, 101, 101, 100, 32]⟩ ++ bl (dec R.f16))) ++ bl ⟨#[32, 107, 101, 121, 32]⟩)) ++ bl (bs (hexW (keyAt R.c)))) := by
  rw [bl_bs, bl_bs]
  unfold joined headOf
  congr 1
  simp only [List.map_cons, List.map_nil]
  rw [join_cons2, join_cons2, join_cons2, join_cons2, Lib.join_one]
  show [99, 111, 110, 102] ++ 32 :: ([115, 101, 101, 100] ++ 32 :: (_ ++ 32 :: ([107, 101, 121] ++ 32 :: _))) = ([99, 111, 110, 102, 32, 115, 101, 101, 100, 32] ++ _) ++ [32, 107, 101, 121, 32] ++ _
  simp
theorem c15 {R : R49} (hT : TB W) (h : Hs W M w) (hG : GoodC R.c) : Calls Tryz.prog 15 #[R.v] w (rt fun v w' => Hs W M w' ∧
    ((okAll confItems ⟨R.c, []⟩ ∧ v = .tuple #[.string (lineOf confItems ⟨R.c, []⟩), .int .i64 0]) ∨ (¬ okAll confItems ⟨R.c, []⟩ ∧ v = .tuple #[.string ⟨#[]⟩, .int .i64 1]))) := by
  have hko : KeyOk R.c := hG.2.2.2.2.2.2
  have h16 : 0 ≤ R.f16 ∧ R.f16 ≤ 18446744073709551615 := hG.1
  obtain ⟨u, hu⟩ : ∃ u : Nat, R.f16 = u := ⟨R.f16.toNat, by omega⟩
  have hdu : bs (Lib.decDigits u) = dec R.f16 := by rw [hu]; rfl
  obtain ⟨hs1, hs2⟩ := head_size h16
  have hszj : (joined (headOf R)).size ≤ 1000 := by
    rw [head_join, ← bl_len, bl_bs, bl_bs, bl_bs, List.length_append, List.length_append, List.length_append, bl_len, bl_len, bl_len, bl_len]
    show 10 + _ + 5 + _ ≤ 1000
    omega
  refine F15_ok ?_
  unfold F15
  refine exR49_of R ⟨rfl, ?_⟩
  refine h.alc fun b w2 h2 => h2.drw fun w4 h4 => h4.ldI 0 rfl rfl ?_
  simp only [add_mk, Nat.zero_add]
  have hfin : ∀ w', Hs W (pt b (.cells R.c 50 (0, 0)) :: M) w' → F15_3 (fun y2_16 y3_16 w18 => ∀ _g : Tm, rdS y2_16 fun s20 => rdI .i64 y3_16 fun n21 => Hs W M w18 ∧
    ((okAll confItems ⟨R.c, []⟩ ∧ Value.tuple #[.string s20, .int .i64 n21] = .tuple #[.string (lineOf confItems ⟨R.c, []⟩), .int .i64 0]) ∨ (¬ okAll confItems ⟨R.c, []⟩ ∧ Value.tuple #[.string s20, .int .i64 n21] = .tuple #[.string ⟨#[]⟩, .int .i64 1]))) (.pointer (some ⟨b, 0, none⟩)) (.string (joined (headOf R))) w' := fun w' h' => by
    refine F15_3_go hT hG h' hszj (fun w5 ho h5 => ?_) (fun w5 ho h5 => ?_)
    · intro _
      simp only [rdS_mk, rdI_mk]
      exact ⟨h5.drop, .inl ⟨ho, by first | rfl | trivial⟩⟩
    · intro _
      simp only [rdS_mk, rdI_mk]
      exact ⟨h5.drop, .inr ⟨ho, by first | rfl | trivial⟩⟩
  have hkr := fun w' h' => key_rd (W := W) hko (i := 0) (w := w') (L := pt b (.cells R.c 50 (0, 0)) :: M) h' rfl
  refine ⟨?_, ?_⟩
  · rw [hu]
    refine cl (c40 (Hs.tb h4 hT) (by omega)) ?_
    rintro _ w5 ⟨rfl, hs⟩
    rw [hdu]
    refine ⟨_, rfl, cat_of (by show 10 + _ ≤ _; omega) ?_⟩
    refine cat_of (by rw [← bl_len (bs _), bl_bs, List.length_append, bl_len, bl_len]; show 10 + _ + 5 ≤ _; omega) ?_
    refine ⟨_, _, _, _, sl16, Go.Sh.Pres.of_Same hs, ?_⟩
    have hc := c41 (c := 16) (l := keyAt R.c) (h4.same hs) (by rw [keyAt_len]; omega) hkr
    rw [keyAt_len] at hc
    refine cl hc ?_
    rintro _ w6 ⟨rfl, h6⟩
    refine ⟨_, rfl, cat_of ?_ ?_⟩
    · rw [← bl_len (bs _), bl_bs, List.length_append, bl_bs, List.length_append, bl_len, bl_len]; show 10 + _ + 5 + _ ≤ _; omega
    · rw [← head_join]
      exact hfin w6 h6
  · refine ⟨_, _, _, _, sl16, Go.Sh.Pres.refl _, ?_⟩
    rw [hu]
    refine cl (c40 (Hs.tb h4 hT) (by omega)) ?_
    rintro _ w5 ⟨rfl, hs⟩
    rw [hdu]
    refine ⟨_, rfl, cat_of (by show 10 + _ ≤ _; omega) ?_⟩
    refine cat_of (by rw [← bl_len (bs _), bl_bs, List.length_append, bl_len, bl_len]; show 10 + _ + 5 ≤ _; omega) ?_
    have hc := c41 (c := 16) (l := keyAt R.c) (h4.same hs) (by rw [keyAt_len]; omega) hkr
    rw [keyAt_len] at hc
    refine cl hc ?_
    rintro _ w6 ⟨rfl, h6⟩
    refine ⟨_, rfl, cat_of ?_ ?_⟩
    · rw [← bl_len (bs _), bl_bs, List.length_append, bl_bs, List.length_append, bl_len, bl_len]; show 10 + _ + 5 + _ ≤ _; omega
    · rw [← head_join]
      exact hfin w6 h6
end
end Go.Proofs.YtilenpnpnbdndaaGreatDoor
