/-
  Reports of path 0's chunks alone, five times (OutboxSplit).
-/
import Derived.Test.YtmliokbonkndaaaShV
import Derived.Test.YtmliokbonkndaaaObO
namespace Go.Proofs.Ytmliokbonkndaaa
open Go Go.Sh
theorem u8_in {X : List Int} (hx : ∀ x ∈ X, 0 ≤ x ∧ x < 256) {i : Nat} {x : Int} (h : X[i]? = some x) : 0 ≤ x ∧ x < 256 := hx x (List.mem_of_getElem? h)
def blV (Bs : List Bool) : List Value := Bs.map .bool
theorem blV_at {Bs : List Bool} {i : Nat} {b : Bool} (h : Bs[i]? = some b) : (blV Bs)[i]? = some (.bool b) := by simp [blV, h]
theorem blV_length (Bs : List Bool) : (blV Bs).length = Bs.length := by simp [blV]
section
variable {W w : World} {L M : List HP} {bb b6 : Nat} {n cum now : Int} {a : Option Addr} {c : Nat} {es : List (Nat × En)} {b : Nat} {e : En}
variable {X : List Int} {xa : Option Addr} {xc : Nat} {Bs : List Bool} {ba : Option Addr} {bc : Nat} {i m : Nat}
abbrev vX (xa : Option Addr) (X : List Int) (xc : Nat) : Value := .slice xa X.length xc
abbrev vB (ba : Option Addr) (Bs : List Bool) (bc : Nat) : Value := .slice ba Bs.length bc
abbrev vI (n : Int) : Value := .int .i64 n
abbrev vP (b : Nat) : Value := .pointer (some ⟨b, 0, none⟩)
theorem c3_5 {K : Value → Value → Value → Value → Value → Value → World → Prop} (hX : Rd W xa (byV X)) (hx : ∀ x ∈ X, 0 ≤ x ∧ x < 256) (hi : i < X.length) (hes : es.length = i) (hi6 : i < 60) (hl : Inv Bs (dats es)) {p : Int} (hp : p = if onOne Bs i = true then 1 else 0)
    (h : Hs W (boxL bb 2 cum a c es ++ L) w)
    (hK : ∀ w' a' c' es', es'.length = i + 1 → Inv Bs (dats es') → Hs W (boxL bb 2 cum a' c' es' ++ L) w' → K (vX xa X xc) (vB ba Bs bc) (vI now) (vP b6) (vP bb) (vI (i : Int)) w') :
    F3_5 K (vX xa X xc) (vB ba Bs bc) (vI now) (vP b6) (vP bb) (vI (i : Int)) (vI p) w := by
  unfold F3_5
  simp only [rdC_mk, rdI_mk, rdA_mk, rdP_mk]
  obtain ⟨x, hxi⟩ : ∃ x, X[i]? = some x := ⟨X[i]'hi, by simp⟩
  have hr := h.rd_old hX
  obtain ⟨ad, rfl⟩ := hr.some (by rw [byV_length]; omega)
  refine ixS_to (p := i) rfl hi ?_
  rw [Nat.mul_one]
  refine ldI_c (hr.at (byV_at hxi)) ?_
  have hb := u8_in hx hxi
  have e1 : IntKind.wrap .i64 x = x := wrap_i64 (by omega) (by omega)
  rw [e1]
  have ht : 0 ≤ Int.tmod x 10 ∧ Int.tmod x 10 < 10 := by
    rw [Int.tmod_eq_emod_of_nonneg hb.1]
    omega
  rw [wrap_i64 (by omega) (by omega)]
  refine ⟨⟨by omega, by show _ ≤ (10 : Int); omega⟩, ?_⟩
  obtain ⟨s, hs⟩ : ∃ s, s = (⟨#[97, 98, 99, 100, 101, 102, 103, 104, 105, 106]⟩ : ByteArray).extract 0 (1 + Int.tmod x 10).toNat := ⟨_, rfl⟩
  show Calls Try.prog 11 #[.string ((⟨#[97, 98, 99, 100, 101, 102, 103, 104, 105, 106]⟩ : ByteArray).extract 0 (1 + Int.tmod x 10).toNat)] w _
  rw [← hs]
  have hsz : (En.s s).data.length = (1 + Int.tmod x 10).toNat := by
    show (sB s).length = _
    unfold sB
    rw [List.length_map, Array.length_toList]
    show s.size = _
    rw [hs, ByteArray.size_extract]
    show min _ 10 - 0 = _
    omega
  refine cl (c11 s w) ?_
  rintro _ w1 ⟨da, dc, rfl, hr1, s1⟩
  refine exR40_of ((En.s s).pt da dc) ⟨rfl, ?_⟩
  have h1 := h.same s1
  have hp2 : p = 0 ∨ p = 1 := by rw [hp]; split <;> simp
  have hpe : putE 2 p 0 (En.s s) es.length = 0 := by
    have ha : askE 2 p 0 = 0 := by
      unfold askE
      rw [if_neg (by omega), if_neg (by omega)]
    unfold putE
    rw [ha, if_neg (by simp), if_neg (by omega), if_neg (by omega)]
  refine cl (c10 (e := En.s s) h1 (by decide) (by omega) (fun e he => by
    obtain ⟨k, hk⟩ := List.getElem?_of_mem he
    exact (hl k e hk).2.1) hr1 p 0) ?_
  rintro _ w2 (⟨h0, _⟩ | ⟨_, rfl, b1, a1, k1, h2⟩)
  · exact absurd hpe h0
  refine ⟨_, _, rfl, ?_⟩
  refine hK w2 a1 k1 _ (by simp; omega) ?_ h2
  intro k e hk
  unfold dats at hk
  rw [List.map_append, List.getElem?_append] at hk
  split at hk
  · exact hl k e hk
  · rename_i hge
    have : k = i := by
      simp at hge
      have := (List.getElem?_eq_some_iff.1 hk).1
      simp at this
      omega
    subst this
    have e2 : e = (En.s s).put (nxt cum es.length) p 0 := by
      rw [List.length_map, hes, Nat.sub_self] at hk
      simpa [hes] using hk.symm
    subst e2
    refine ⟨hp, ?_, fun _ => ⟨rfl, rfl, Int.le_refl _⟩⟩
    show (En.s s).data.length ≤ 70000
    omega
theorem c3_9 {K0 : Value → Value → Value → Value → Value → World → Prop} (hX : Rd W xa (byV X)) (hx : ∀ x ∈ X, 0 ≤ x ∧ x < 256) (hB : Rd W ba (blV Bs)) (hm : m = min (min X.length Bs.length) 60)
    (hK : ∀ w' a' c' es', es'.length = m → Inv Bs (dats es') → Hs W (boxL bb 2 cum a' c' es' ++ L) w' → K0 (vX xa X xc) (vB ba Bs bc) (vI now) (vP b6) (vP bb) w') :
    ∀ (j i : Nat) (w : World) (k : Nat) (a : Option Addr) (c : Nat) (es : List (Nat × En)), i + j = m → es.length = i → Inv Bs (dats es) → Hs W (boxL bb 2 cum a c es ++ L) w → j < k →
      F3_9 K0 k (vX xa X xc) (vB ba Bs bc) (vI now) (vP b6) (vP bb) (vI (i : Int)) w := by
  intro j
  induction j with
  | zero =>
    intro i w k a c es hij hes hl h hk
    obtain ⟨k, rfl⟩ : ∃ j, k = j + 1 := ⟨k - 1, by omega⟩
    show F3_9B _ _ _ _ _ _ _ _ _
    unfold F3_9B
    simp only [rdC_mk, rdI_mk, rdA_mk, rdP_mk, br_dec]
    have hend := hK w a c es (by omega) hl h
    exact ⟨fun h1 => ⟨fun h2 => ⟨fun h3 => by exfalso; omega, fun _ => hend⟩, fun _ => hend⟩, fun _ => hend⟩
  | succ j ih =>
    intro i w k a c es hij hes hl h hk
    obtain ⟨k, rfl⟩ : ∃ j, k = j + 1 := ⟨k - 1, by omega⟩
    show F3_9B _ _ _ _ _ _ _ _ _
    unfold F3_9B
    simp only [rdC_mk, rdI_mk, rdA_mk, rdP_mk, br_dec]
    refine ⟨fun h1 => ⟨fun h2 => ⟨fun h3 => ?_, fun h => by exfalso; omega⟩, fun h => by exfalso; omega⟩, fun h => by exfalso; omega⟩
    unfold F3_8
    simp only [rdC_mk, rdI_mk, rdA_mk, rdP_mk]
    obtain ⟨y, hy⟩ : ∃ y, Bs[i]? = some y := ⟨Bs[i]'(by omega), by simp⟩
    have hr := h.rd_old hB
    obtain ⟨ad, rfl⟩ := hr.some (by rw [blV_length]; omega)
    refine ixS_to (p := i) rfl (by omega) ?_
    rw [Nat.mul_one]
    refine ldB_c (hr.at (blV_at hy)) ?_
    have hone : onOne Bs i = y := by unfold onOne; simp [List.getD, hy]
    have e1 : IntKind.wrap .i64 ((i : Int) + 1) = ((i + 1 : Nat) : Int) := by rw [wrap_i64 (by omega) (by omega)]; omega
    have go : ∀ p : Int, p = (if onOne Bs i = true then 1 else 0) → ∀ K : Value → Value → Value → Value → Value → Value → World → Prop, (∀ w', K (vX xa X xc) (vB (some ad) Bs bc) (vI now) (vP b6) (vP bb) (vI (i : Int)) w' ↔ F3_9 K0 k (vX xa X xc) (vB (some ad) Bs bc) (vI now) (vP b6) (vP bb) (vI ((i + 1 : Nat) : Int)) w') →
        F3_5 K (vX xa X xc) (vB (some ad) Bs bc) (vI now) (vP b6) (vP bb) (vI (i : Int)) (vI p) w := by
      intro p hp K hKK
      refine c3_5 hX hx (by omega) hes (by omega) hl hp h fun w' a' c' es' h1 h2 h3 => (hKK w').2 (ih (i + 1) w' k a' c' es' (by omega) h1 h2 h3 (by omega))
    rw [br_iff]
    refine ⟨fun hb => ?_, fun hb => ?_⟩
    · refine go 1 (by rw [hone, hb]; rfl) _ fun w' => ?_
      simp only [rdC_mk, rdI_mk, rdA_mk, rdP_mk, e1]
      exact ⟨fun h => h (fun _ => .bool false) (fun _ => .bool false), fun h _ _ => h⟩
    · refine go 0 (by rw [hone, hb]; rfl) _ fun w' => ?_
      simp only [rdC_mk, rdI_mk, rdA_mk, rdP_mk, e1]
      exact ⟨fun h => h (fun _ => .bool false) (fun _ => .bool false), fun h _ _ => h⟩
theorem wrap_small {k : Nat} (h : k ≤ 60) : IntKind.wrap .u16 (k : Int) = (k : Int) := by
  have : ∀ k : Nat, k < 61 → IntKind.wrap .u16 (k : Int) = (k : Int) := by decide
  exact this k (by omega)
variable {la : Option Addr} {lc : Nat} {G : List Gp} {n16 : Int} {d : Nat}
theorem c3_1 {K : Value → Value → Value → Value → Value → Value → Value → Value → World → Prop} {B : Bool} (hd : d ≤ 60) (hGl : G.length ≤ 100000000)
    (h : Hs W (slP 44 2 la G.length lc (gapV G) :: M) w)
    (hK : ∀ w' la' lc', Hs W (slP 44 2 la' (if B = true then G ++ [((d : Int), (d : Int))] else G).length lc' (gapV (if B = true then G ++ [((d : Int), (d : Int))] else G)) :: M) w' → K (vX xa X xc) (vB ba Bs bc) (vI now) (vP b6) (vP bb) (.slice la' (if B = true then G ++ [((d : Int), (d : Int))] else G).length lc') (vI n16) (vI (d : Int)) w') :
    F3_1 K (vX xa X xc) (vB ba Bs bc) (vI now) (vP b6) (vP bb) (.slice la G.length lc) (vI n16) (vI (d : Int)) (.bool B) w := by
  unfold F3_1
  simp only [rdC_mk, rdI_mk, rdA_mk, rdP_mk, rdB_mk]
  cases B with
  | false =>
    rw [br_false]
    exact hK w la lc h
  | true =>
    rw [br_true, wrap_small hd]
    refine h.alc fun b10 w1 h1 => ?_
    refine h1.append E27 1 rfl (m := 1) (news := [.int .u16 d, .int .u16 d]) rfl (fun j u hj => ⟨_, rfl, ?_⟩) (by simp [Value.oneCell']) (by omega) (by omega) fun la' lc' w2 h2 _ => ?_
    · rw [add_mk, Nat.zero_add, cell_at (h1.at 0 rfl)]
      simpa using hj
    have h2 : Hs W (pt b10 (.cells #[.int .u16 d, .int .u16 d] 44 (0, 0)) :: slP 44 2 la' (G.length + 1) lc' (gapV G ++ [.int .u16 d, .int .u16 d]) :: M) w2 := h2
    have e1 : gapV (G ++ [((d : Int), (d : Int))]) = gapV G ++ [.int .u16 d, .int .u16 d] := by simp [gapV, gpV]
    have e2 : (G ++ [((d : Int), (d : Int))]).length = G.length + 1 := by simp
    have := hK w2 la' lc'
    simp only [if_true, e1, e2] at this
    exact this h2.drop
theorem c3_2 {K : Value → Value → Value → Value → Value → Value → Value → Value → World → Prop} (hB : Rd W ba (blV Bs)) (hm : m = min (min X.length Bs.length) 60) (hd : d ≤ 60) (hd1 : (d : Int) - 1 < Bs.length) (hd2 : (d : Int) - 1 < X.length) (hGl : G.length ≤ 100000000) (hG : GP Bs m G)
    (h : Hs W (slP 44 2 la G.length lc (gapV G) :: M) w)
    (hK : ∀ w' la' lc' G', GP Bs m G' → G'.length ≤ G.length + 1 → Hs W (slP 44 2 la' G'.length lc' (gapV G') :: M) w' → K (vX xa X xc) (vB ba Bs bc) (vI now) (vP b6) (vP bb) (.slice la' G'.length lc') (vI n16) (vI ((d + 1 : Nat) : Int)) w') :
    F3_2 K (vX xa X xc) (vB ba Bs bc) (vI now) (vP b6) (vP bb) (.slice la G.length lc) (vI n16) (vI (d : Int)) w := by
  unfold F3_2
  simp only [rdC_mk, rdI_mk, rdA_mk, rdP_mk, rdB_mk]
  have e1 : IntKind.wrap .i64 ((d : Int) + 1) = ((d + 1 : Nat) : Int) := by rw [wrap_i64 (by omega) (by omega)]; omega
  rw [br_dec]
  refine ⟨fun h0 => ?_, fun h0 => ?_⟩
  · rw [wrap_i64 (by omega) (by omega)]
    obtain ⟨y, hy⟩ : ∃ y, Bs[d - 1]? = some y := ⟨Bs[d - 1]'(by omega), by simp⟩
    have hr := h.rd_old hB
    obtain ⟨ad, rfl⟩ := hr.some (by rw [blV_length]; omega)
    refine ixS_to (p := d - 1) (by omega) (by omega) ?_
    rw [Nat.mul_one]
    refine ldB_c (hr.at (blV_at hy)) ?_
    refine c3_1 hd hGl h fun w' la' lc' h1 => ?_
    simp only [rdC_mk, rdI_mk, rdA_mk, rdP_mk, e1]
    intro _g
    refine hK w' la' lc' _ ?_ (by split <;> simp) h1
    split
    · rename_i hy2
      intro g hg
      rcases List.mem_append.1 hg with hg | hg
      · exact hG g hg
      · rw [List.mem_singleton.1 hg]
        refine ⟨rfl, by show (1 : Int) ≤ d; omega, by show (d : Int) ≤ m; omega, by show (d : Int) ≤ 60; omega, ?_⟩
        have : ((d : Int) - 1).toNat = d - 1 := by omega
        show onOne Bs ((d : Int) - 1).toNat = false
        rw [this]
        unfold onOne
        simpa [List.getD, hy] using hy2
    · exact hG
  · refine c3_1 hd hGl h fun w' la' lc' h1 => ?_
    simp only [rdC_mk, rdI_mk, rdA_mk, rdP_mk, e1]
    intro _g
    exact hK w' la' lc' G hG (by omega) h1
/-- one block of what was handed in -/
theorem c3_3 {K4 : Value → Value → Value → Value → Value → Value → Value → World → Prop} {s : R30} {j : Nat} {gap : Gp} {Gs : List Gp} (hB : Rd W ba (blV Bs)) (hm : m = min (min X.length Bs.length) 60) (hj : Gs[j]? = some gap) (hsn : s.f10n = Gs.length) (hGs : Rd W s.f10a (gapV Gs)) (hgap : 0 ≤ gap.1 ∧ gap.1 ≤ 65535 ∧ 0 ≤ gap.2 ∧ gap.2 ≤ 65535)
    {N : Nat} (hN : N ≤ 99999999)
    (hK : ∀ w' la' lc' G', GP Bs m G' → G'.length ≤ N → Hs W (slP 44 2 la' G'.length lc' (gapV G') :: pt b6 (.cells s.c 31 (0, 0)) :: M) w' → K4 (vX xa X xc) (vB ba Bs bc) (vI now) (vP b6) (vP bb) (.slice la' G'.length lc') (vI (j : Int)) w') :
    ∀ (r d : Nat) (w : World) (k : Nat) (la : Option Addr) (lc : Nat) (G : List Gp), 61 - d = r → G.length + r ≤ N → GP Bs m G → Hs W (slP 44 2 la G.length lc (gapV G) :: pt b6 (.cells s.c 31 (0, 0)) :: M) w → r < k →
      F3_3 K4 k (vX xa X xc) (vB ba Bs bc) (vI now) (vP b6) (vP bb) (.slice la G.length lc) (vI (j : Int)) (vI (d : Int)) w := by
  intro r
  induction r with
  | zero =>
    intro d w k la lc G hr hl hG h hk
    obtain ⟨k, rfl⟩ : ∃ j, k = j + 1 := ⟨k - 1, by omega⟩
    show F3_3B _ _ _ _ _ _ _ _ _ _ _
    unfold F3_3B
    simp only [rdC_mk, rdI_mk, rdA_mk, rdP_mk, add_mk]
    refine h.ldC 1 rfl rfl ?_
    have hrd := h.rd_old hGs
    have hjl := (List.getElem?_eq_some_iff.1 hj).1
    obtain ⟨ad, had⟩ := hrd.some (by rw [gapV_length]; omega)
    rw [had, hsn]
    rw [had] at hrd
    refine ixS_to (p := j) rfl hjl ?_
    simp only [add_add]
    refine ldI_c (hrd.at (gapV_at hj).2) ?_
    have hend := hK w la lc G hG (by omega) h
    simp only [br_dec]
    exact ⟨fun h1 => ⟨fun h2 => ⟨fun h3 => ⟨fun h4 => by exfalso; omega, fun _ => hend⟩, fun _ => hend⟩, fun _ => hend⟩, fun _ => hend⟩
  | succ r ih =>
    intro d w k la lc G hr hl hG h hk
    obtain ⟨k, rfl⟩ : ∃ j, k = j + 1 := ⟨k - 1, by omega⟩
    show F3_3B _ _ _ _ _ _ _ _ _ _ _
    unfold F3_3B
    simp only [rdC_mk, rdI_mk, rdA_mk, rdP_mk, add_mk]
    refine h.ldC 1 rfl rfl ?_
    have hrd := h.rd_old hGs
    have hjl := (List.getElem?_eq_some_iff.1 hj).1
    obtain ⟨ad, had⟩ := hrd.some (by rw [gapV_length]; omega)
    rw [had, hsn]
    rw [had] at hrd
    refine ixS_to (p := j) rfl hjl ?_
    simp only [add_add]
    refine ldI_c (hrd.at (gapV_at hj).2) ?_
    have hend := hK w la lc G hG (by omega) h
    have e1 : IntKind.wrap .i64 ((d : Int) - 1) = (d : Int) - 1 := wrap_i64 (by omega) (by omega)
    rw [e1]
    simp only [br_dec]
    refine ⟨fun h1 => ⟨fun h2 => ⟨fun h3 => ⟨fun h4 => ?_, fun _ => hend⟩, fun _ => hend⟩, fun _ => hend⟩, fun _ => hend⟩
    refine c3_2 hB hm (by omega) (by omega) (by omega) (by omega) hG h fun w' la' lc' G' hG' hl' h' => ?_
    simp only [rdC_mk, rdI_mk, rdA_mk, rdP_mk]
    intro _g
    exact ih (d + 1) w' k la' lc' G' (by omega) (by omega) hG' h' (by omega)
theorem c3_7 {K2 : Value → Value → Value → Value → World → Prop} {s : R30} {Gs : List Gp} (hB : Rd W ba (blV Bs)) (hm : m = min (min X.length Bs.length) 60) (hsn : s.f10n = Gs.length) (hGs : Rd W s.f10a (gapV Gs)) (hok : gOk Gs) (hfew : Gs.length ≤ 1048576)
    (hK : ∀ w' la' lc' G', GP Bs m G' → G'.length ≤ 99999999 → Hs W (slP 44 2 la' G'.length lc' (gapV G') :: pt b6 (.cells s.c 31 (0, 0)) :: M) w' → K2 (vI now) (vP b6) (vP bb) (.slice la' G'.length lc') w') :
    ∀ (r j : Nat) (w : World) (k : Nat) (la : Option Addr) (lc : Nat) (G : List Gp), j + r = Gs.length → G.length ≤ 61 * j → GP Bs m G → Hs W (slP 44 2 la G.length lc (gapV G) :: pt b6 (.cells s.c 31 (0, 0)) :: M) w → r < k →
      F3_7 K2 k (vX xa X xc) (vB ba Bs bc) (vI now) (vP b6) (vP bb) (.slice la G.length lc) (vI (j : Int)) w := by
  intro r
  induction r with
  | zero =>
    intro j w k la lc G hr hl hG h hk
    obtain ⟨k, rfl⟩ : ∃ j, k = j + 1 := ⟨k - 1, by omega⟩
    show F3_7B _ _ _ _ _ _ _ _ _ _
    unfold F3_7B
    simp only [rdC_mk, rdI_mk, rdA_mk, rdP_mk, add_mk]
    refine h.ldC 1 rfl rfl ?_
    rw [hsn, br_dec]
    exact ⟨fun h1 => by exfalso; omega, fun _ => hK w la lc G hG (by omega) h⟩
  | succ r ih =>
    intro j w k la lc G hr hl hG h hk
    obtain ⟨k, rfl⟩ : ∃ j, k = j + 1 := ⟨k - 1, by omega⟩
    show F3_7B _ _ _ _ _ _ _ _ _ _
    unfold F3_7B
    simp only [rdC_mk, rdI_mk, rdA_mk, rdP_mk, add_mk]
    refine h.ldC 1 rfl rfl ?_
    rw [hsn, br_dec]
    refine ⟨fun _ => ?_, fun h1 => by exfalso; omega⟩
    refine h.ldC 1 rfl rfl ?_
    have hrd := h.rd_old hGs
    obtain ⟨gap, hj⟩ : ∃ g, Gs[j]? = some g := ⟨Gs[j]'(by omega), by simp⟩
    obtain ⟨ad, had⟩ := hrd.some (by rw [gapV_length]; omega)
    rw [had, hsn]
    rw [had] at hrd
    refine ixS_to (p := j) rfl (by omega) ?_
    simp only [add_add]
    refine ldI_c (hrd.at (gapV_at hj).1) ?_
    have hgap := hok gap (List.mem_of_getElem? hj)
    rw [wrap_i64 (by omega) (by omega)]
    have e0 : gap.1 = ((gap.1.toNat : Nat) : Int) := by omega
    rw [e0]
    refine ⟨62, c3_3 hB hm hj hsn hGs hgap (N := 61 * (j + 1)) (by omega) (fun w' la' lc' G' hG' hl' h' => ?_) (61 - gap.1.toNat) gap.1.toNat w _ la lc G rfl (by omega) hG h (by omega)⟩
    simp only [rdC_mk, rdI_mk, rdA_mk, rdP_mk]
    intro _g
    have e1 : IntKind.wrap .i64 ((j : Int) + 1) = ((j + 1 : Nat) : Int) := by rw [wrap_i64 (by omega) (by omega)]; omega
    rw [e1]
    exact ih (j + 1) w' k la' lc' G' (by omega) hl' hG' h' (by omega)
/-- the record that is reported -/
def repR (s : R30) (cum : Int) (la : Option Addr) (G : List Gp) (lc : Nat) : R30 := { s with f0 := 3, f2 := cum, f10a := la, f10n := G.length, f10c := lc, f11a := none, f11n := 0, f11c := 0 }
theorem ak_ne : eqvs ak0.l ak0.l = true := by
  exact eqvs_self (mR52 ak0)
theorem c3_6 {K6 : Value → World → Prop} {Kr : Value → World → Prop} {s : R30} (hc : 0 ≤ cum ∧ cum < 4294967296) (hm60 : m ≤ 60) (hG : GP Bs m G) (hGl : G.length ≤ 99999999)
    (hKr : ∀ w', Same W w' → Kr (.bool true) w')
    (hK : ∀ w' a' c' es', es'.length = m → Inv Bs (dats es') → Hs W (boxL bb 2 cum a' c' es' ++ (slP 44 2 la G.length lc (gapV G) :: pt b6 (.cells (repR s cum la G lc).c 31 (0, 0)) :: M)) w' → K6 (vP bb) w') :
    ∀ (r j : Nat) (w : World) (k : Nat) (a : Option Addr) (c : Nat) (es : List (Nat × En)), j + r = 5 → es.length = m → Inv Bs (dats es) → Hs W (boxL bb 2 cum a c es ++ (slP 44 2 la G.length lc (gapV G) :: pt b6 (.cells (repR s cum la G lc).c 31 (0, 0)) :: M)) w → r < k →
      F3_6 K6 Kr k (vI now) (vP b6) (vP bb) (vI (j : Int)) w := by
  intro r
  induction r with
  | zero =>
    intro j w k a c es hj hes hl h hk
    obtain ⟨k, rfl⟩ : ∃ j, k = j + 1 := ⟨k - 1, by omega⟩
    show F3_6B _ _ _ _ _ _ _ _
    unfold F3_6B
    simp only [rdI_mk, rdA_mk, rdP_mk]
    rw [br_dec]
    exact ⟨fun h1 => by exfalso; omega, fun _ => hK w a c es hes hl h⟩
  | succ r ih =>
    intro j w k a c es hj hes hl h hk
    obtain ⟨k, rfl⟩ : ∃ j, k = j + 1 := ⟨k - 1, by omega⟩
    show F3_6B _ _ _ _ _ _ _ _
    unfold F3_6B
    simp only [rdI_mk, rdA_mk, rdP_mk]
    rw [br_dec]
    refine ⟨fun _ => ?_, fun h1 => by exfalso; omega⟩
    have hh : Hs W ([slP 44 2 la G.length lc (gapV G), pt b6 (.cells (repR s cum la G lc).c 31 (0, 0))] ++ (boxL bb 2 cum a c es ++ M)) w := Hs.flip.1 h
    refine ldR30_of (s := repR s cum la G lc) (hh.atL 1 rfl) ?_
    have hk13 : RpOk W (slP 44 2 la G.length lc (gapV G) :: pt b6 (.cells (repR s cum la G lc).c 31 (0, 0)) :: M) (repR s cum la G lc) ⟨3, cum, G, []⟩ := by
      refine ⟨rfl, rfl, hc, rfl, fun w' h' => h'.rd 0 rfl, rfl, fun _ _ => Rd.nil _ _, ⟨?_, by show G.length ≤ _; omega⟩, by simp [gOk]⟩
      intro g hg
      obtain ⟨a1, a2, a3, a4, _⟩ := hG g hg
      omega
    have hpath : ∀ e ∈ dats es, 0 ≤ e.path ∧ e.path < 2 := by
      intro e he
      obtain ⟨q, hq⟩ := List.getElem?_of_mem he
      have := (hl q e hq).1
      split at this <;> omega
    have hc13 := c13 (N := 2) hk13 (by omega) rfl ⟨by decide, by decide⟩ hc hpath h (now := now)
    have hright := split_right (now := now) hG hc hm60
    rw [← hes] at hright
    refine cl hc13 ?_
    rintro _ w1 (⟨h0, rfl, h1⟩ | ⟨h0, s', rfl, oa, oc, a3, k3, es', rfl, hes', h1⟩)
    · rw [hright] at h0 ⊢
      have hno : now < 0 ∨ now > 1099511627776 := by
        by_cases hno : now < 0 ∨ now > 1099511627776
        · exact hno
        · rw [if_neg hno] at h0; exact absurd rfl h0
      rw [if_pos hno]
      refine exR47_of R47.z ⟨_, rfl, ?_⟩
      refine h1.alc fun b10 w2 h2 => h2.stcL 0 rfl rfl fun w3 h3 => ?_
      rw [show ((1 : Int) != 0) = true from rfl, br_true]
      have hend : ∀ {K : Value → World → Prop}, (∀ w', Same W w' → K (.bool true) w') → Calls Try.prog 14 #[] w3 fun e11 w10 => ∃ b12, e11 = .returned (.bool b12) ∧ K (.bool b12) w10 := by
        intro K hKK
        refine cl (c14 w3) ?_
        rintro _ w5 ⟨rfl, s5⟩
        exact ⟨_, rfl, hKK _ (h3.old.trans s5 fun _ _ x => x)⟩
      rw [br_dec]
      refine ⟨fun _ => ?_, fun hn => ?_⟩
      · rw [show ((1 : Int) == 1) = true from rfl, br_true]
        exact hend hKr
      · rw [br_dec]
        refine ⟨fun _ => ?_, fun hn2 => by exfalso; omega⟩
        rw [show ((1 : Int) == 1) = true from rfl, br_true]
        exact hend hKr
    · obtain ⟨i2, p2⟩ := split_inv (cum := cum) (now := now) hG hl
      have hd0 : dats es' = (Rp.mk 3 cum G []).l2 cum now (dats es) := by
        rw [hes']
        have : ((Rp.mk 3 cum G []).n0 cum).toNat = 0 := by
          unfold Rp.n0
          show (sd cum cum).toNat = 0
          rw [sd_self]; rfl
        rw [this, List.drop_zero]
      have hlen : es'.length = m := by
        have := congrArg List.length hd0
        rw [l2_length] at this
        simp only [dats, List.length_map] at this
        omega
      obtain ⟨s1, hs1⟩ : ∃ s1, s1 = ((Rp.mk 3 cum G []).sums cum (dats es)).1 := ⟨_, rfl⟩
      obtain ⟨s2, hs2⟩ : ∃ s2, s2 = ((Rp.mk 3 cum G []).sums cum (dats es)).2 := ⟨_, rfl⟩
      obtain ⟨pf, hpf⟩ : ∃ pf, pf = (Rp.mk 3 cum G []).paths cum now (dats es) := ⟨_, rfl⟩
      rw [← hpf] at h1 p2
      rw [← hs1, ← hs2]
      refine exR47_of (R47.mk oa 2 oc s1 s2) ⟨_, rfl, ?_⟩
      refine h1.alc fun b10 w2 h2 => h2.stcL 0 rfl rfl fun w3 h3 => ?_
      rw [show ((0 : Int) != 0) = false from rfl, br_false]
      simp only [add_mk]
      refine h3.ldC 0 rfl rfl ?_
      show br ((((2 : Nat) : Int)) != 2) _ _
      rw [show ((((2 : Nat) : Int)) != 2) = false from rfl, br_false]
      refine h3.ldC 0 rfl rfl ?_
      have hr := h3.rd 1 rfl
      obtain ⟨od, rfl⟩ := hr.some (by rw [aV_length]; decide)
      refine ixS_to (p := 1) rfl (show 1 < 2 by decide) ?_
      refine ldR52_of (s := pf 1) (fun q v hq => ?_) ?_
      · rw [add_add]
        exact hr.at (aV_at (by decide) hq)
      rw [p2]
      have key := neq_flat (P := Try.prog) (w := w3) (t := 53) (x := .tmp 168) (y := .tmp 169) (vs := ak0.l) (us := ak0.l) t53 (mR52 _) (mR52 _)
      rw [ak_ne] at key
      refine ⟨false, w3, key, ?_⟩
      rw [br_false]
      have e1 : IntKind.wrap .i64 ((j : Int) + 1) = ((j + 1 : Nat) : Int) := by rw [wrap_i64 (by omega) (by omega)]; omega
      rw [e1]
      exact ih (j + 1) w3 k a3 k3 es' (by omega) hlen (by rw [hd0]; exact i2) h3.drop.drop (by omega)
/-- what lies on path 1 in the end -/
theorem c3_4 {K8 : World → Prop} {Kr : Value → World → Prop} {V : World} {oa : Option Addr} {oc : Nat} {ds : List (En × Option Addr × Nat)} (hl : Inv Bs (ds.map (·.1))) (hm : ds.length ≤ 60) (hK : ∀ w', Hs V (outL oa oc ds) w' → K8 w') :
    ∀ (r j : Nat) (w : World) (k : Nat), j + r = ds.length → Hs V (outL oa oc ds) w → r < k → F3_4 K8 Kr k (.slice oa ds.length oc) (vI (j : Int)) w := by
  intro r
  induction r with
  | zero =>
    intro j w k hj h hk
    obtain ⟨k, rfl⟩ : ∃ j, k = j + 1 := ⟨k - 1, by omega⟩
    show F3_4B _ _ _ _ _ _
    unfold F3_4B
    simp only [rdI_mk, rdC_mk]
    rw [br_dec]
    exact ⟨fun h1 => by exfalso; omega, fun _ => hK w h⟩
  | succ r ih =>
    intro j w k hj h hk
    obtain ⟨k, rfl⟩ : ∃ j, k = j + 1 := ⟨k - 1, by omega⟩
    show F3_4B _ _ _ _ _ _
    unfold F3_4B
    simp only [rdI_mk, rdC_mk]
    rw [br_dec]
    refine ⟨fun _ => ?_, fun h1 => by exfalso; omega⟩
    obtain ⟨d, hd⟩ : ∃ d, ds[j]? = some d := ⟨ds[j]'(by omega), by simp⟩
    have hr := h.rd 0 rfl
    obtain ⟨ad, rfl⟩ := hr.some (by rw [flat_length (m := 14) recV_length]; omega)
    refine ixS_to (p := j) rfl (by omega) ?_
    simp only [add_add]
    have e1 : IntKind.wrap .i64 ((j : Int) + 1) = ((j + 1 : Nat) : Int) := by rw [wrap_i64 (by omega) (by omega)]; omega
    rw [e1]
    have hi := hl j d.1 (by simp [hd])
    have go := ih (j + 1) w k (by omega) h (by omega)
    refine ldI_c (hr.at (u := .int .i64 d.1.path) (flat_at (m := 14) recV_length hd rfl)) ?_
    rw [br_iff]
    refine ⟨fun hp => ?_, fun _ => go⟩
    have hp : d.1.path = 1 := by simpa using hp
    obtain ⟨h1, h2, _⟩ := hi.2.2 hp
    refine ixS_to (p := j) rfl (by omega) ?_
    simp only [add_add]
    refine ldI_c (hr.at (u := .int .i64 d.1.st) (flat_at (m := 14) recV_length hd rfl)) ?_
    rw [h1, show ((1 : Int) != 1) = false from rfl, br_false]
    refine ixS_to (p := j) rfl (by omega) ?_
    simp only [add_add]
    refine ldI_c (hr.at (u := .int .i64 d.1.miss) (flat_at (m := 14) recV_length hd rfl)) ?_
    rw [h2, show ((0 : Int) != 0) = false from rfl, br_false]
    exact go
theorem c3 {s : R30} {Gs : List Gp} (hX : Rd W xa (byV X)) (hx : ∀ x ∈ X, 0 ≤ x ∧ x < 256) (hB : Rd W ba (blV Bs)) (hsn : s.f10n = Gs.length) (hGs : Rd W s.f10a (gapV Gs)) (hok : gOk Gs) (hfew : Gs.length ≤ 1048576) (n now : Int) :
    Calls Try.prog 3 #[.int .u32 n, vX xa X xc, vB ba Bs bc, s.v, .int .i64 now] W (rt fun v w' => v = .bool true ∧ Same W w') := by
  refine F3_ok ?_
  unfold F3
  simp only [rdI_mk, rdC_mk]
  refine exR30_of s ⟨rfl, ?_⟩
  refine (Hs.start W).alc fun b6 w1 h1 => ?_
  refine cl (c9 h1 n 2) ?_
  rintro _ w2 (⟨h0, _⟩ | ⟨_, bb, rfl, h2⟩)
  · exact absurd (by decide) h0
  refine ⟨_, _, rfl, ?_⟩
  rw [show ((0 : Int) != 0) = false from rfl, br_false]
  simp only [Option.isNone_some, br_false]
  obtain ⟨cum, hcum⟩ : ∃ cum, cum = newC n := ⟨_, rfl⟩
  have hc : 0 ≤ cum ∧ cum < 4294967296 := by rw [hcum]; exact (by unfold newC; omega)
  rw [← hcum] at h2
  obtain ⟨m, hm⟩ : ∃ m, m = min (min X.length Bs.length) 60 := ⟨_, rfl⟩
  unfold F3_10
  simp only [rdI_mk, rdC_mk, rdA_mk, rdP_mk]
  refine ⟨m + 1, c3_9 hX hx hB hm (fun w3 a3 k3 es hes hl h3 => ?_) m 0 w2 _ none 0 [] (Nat.zero_add _) rfl (fun k e h => by simp [dats] at h) h2 (by omega)⟩
  intro _g
  simp only [rdI_mk, rdC_mk, rdA_mk, rdP_mk]
  have h4 : Hs W (slP 44 2 none ([] : List Gp).length 0 (gapV []) :: pt b6 (.cells s.c 31 (0, 0)) :: (boxL bb 2 cum a3 k3 es ++ [])) w3 := by
    have := h3.nil 44 2
    exact this.perm (List.Perm.cons _ ((List.perm_append_comm (l₁ := boxL bb 2 cum a3 k3 es) (l₂ := [pt b6 (.cells s.c 31 (0, 0))])).trans (by rw [List.append_nil]; exact List.Perm.refl _)))
  refine ⟨Gs.length + 1, c3_7 hB hm hsn hGs hok hfew (fun w4 la lc G hG hGl h5 => ?_) Gs.length 0 w3 _ none 0 [] (Nat.zero_add _) (Nat.le_refl _) (fun g hg => by cases hg) h4 (by omega)⟩
  intro _g
  simp only [rdI_mk, rdC_mk, rdA_mk, rdP_mk]
  have hb5 : RB w4 bb 2 cum es := box_rbX (X := [_, _]) h5
  refine clr (c12 hb5 (by decide)) ⟨_, rfl, ?_⟩
  simp only [add_mk]
  refine h5.stc 1 rfl (by simp [R30.c]) fun w5 h6 => ?_
  refine h6.stc 1 rfl (by simp [R30.c]) fun w6 h7 => ?_
  refine h7.stc 1 rfl (by simp [R30.c]) fun w7 h8 => ?_
  refine h8.stc 1 rfl (by simp [R30.c]) fun w8 h9 => ?_
  have h9 : Hs W ([slP 44 2 la G.length lc (gapV G), pt b6 (.cells (repR s cum la G lc).c 31 (0, 0))] ++ (boxL bb 2 cum a3 k3 es ++ [])) w8 := h9
  have h10 := Hs.flip.1 h9
  refine ⟨6, c3_6 (M := []) hc (by omega) hG hGl (fun w' s' _ => ?_) (fun w9 a9 k9 es9 hes9 hl9 h11 => ?_) 5 0 w8 _ a3 k3 es rfl hes hl h10 (by omega)⟩
  · simp only [rdB_mk]
    exact fun _ => ⟨trivial, s'⟩
  intro _g
  simp only [rdP_mk]
  have hd : ∀ e ∈ dats es9, e.data.length ≤ 70000 := fun e he => by
    obtain ⟨k, hk⟩ := List.getElem?_of_mem he
    exact (hl9 k e hk).2.1
  refine cl (c15 (box_rb h11) (by decide) (by omega) hd) ?_
  rintro _ w10 ⟨oa, oc, ds, rfl, hds, ho⟩
  refine ⟨_, _, _, rfl, ?_⟩
  have hlen : (dats es9).length = ds.length := by rw [← hds, List.length_map]
  rw [hlen]
  have hm2 : ds.length ≤ 60 := by
    have : (dats es9).length = es9.length := by simp [dats]
    omega
  refine ⟨ds.length + 1, c3_4 (by rw [hds]; exact hl9) hm2 (fun w11 h12 => ?_) ds.length 0 w10 _ (Nat.zero_add _) ho (by omega)⟩
  intro _g
  refine cl (c14 w11) ?_
  rintro _ w12 ⟨rfl, s12⟩
  refine ⟨_, rfl, ?_⟩
  simp only [rdB_mk]
  exact fun _ => ⟨trivial, (h11.old.trans h12.old fun _ _ x => x).trans s12 fun _ _ x => x⟩
end
end Go.Proofs.Ytmliokbonkndaaa
