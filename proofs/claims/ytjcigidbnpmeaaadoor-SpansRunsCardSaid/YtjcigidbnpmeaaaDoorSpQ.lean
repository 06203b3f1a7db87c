/- Own text: part of the shallow reading of the code and of the contracts that are proved over it. -/
import Derived.Test.YtjcigidbnpmeaaaDoorSpO
namespace Go.Proofs.YtjcigidbnpmeaaaDoor
open Go Go.Sh Go.Sp

/-! the law SpansAll -/
theorem Pres.refl (w : World) : Pres w w := ⟨Nat.le_refl _, fun _ _ h => h, fun _ _ _ h => h⟩
theorem missA_inv (S : List Nat) (h : S.Pairwise (· < ·)) (h1 : ∀ d ∈ S, 1 ≤ d) : (missA S).1.length + S.length + 1 = (missA S).2 ∧ (∀ x ∈ (missA S).1, 1 ≤ x ∧ x < (missA S).2 ∧ x ∉ S) ∧ (missA S).1.Pairwise (· < ·) ∧ (∀ d ∈ S, d < (missA S).2) := by
  revert h h1
  refine snocInd (P := fun S => S.Pairwise (· < ·) → (∀ d ∈ S, 1 ≤ d) → (missA S).1.length + S.length + 1 = (missA S).2 ∧ (∀ x ∈ (missA S).1, 1 ≤ x ∧ x < (missA S).2 ∧ x ∉ S) ∧ (missA S).1.Pairwise (· < ·) ∧ (∀ d ∈ S, d < (missA S).2)) (by simp [missA]) ?_ S
  intro r d ih h h1
  obtain ⟨i1, i2, i3, i4⟩ := ih (List.pairwise_append.1 h).1 fun e he => h1 e (by simp [he])
  have h3 := (List.pairwise_append.1 h).2.2
  have hd : (missA r).2 ≤ d := by
    rw [missA_next]
    rcases List.eq_nil_or_concat r with rfl | ⟨r', e, rfl⟩
    · have := h1 d (by simp); simpa using this
    · have := h3 e (by simp) d (by simp)
      simp [List.getLastD_eq_getLast?]; omega
  rw [missA_snoc]
  simp only [mstep, List.length_append, List.length_range', List.length_singleton]
  refine ⟨by omega, fun x hx => ?_, ?_, fun e he => ?_⟩
  · rcases List.mem_append.1 hx with hx | hx
    · obtain ⟨a1, a2, a3⟩ := i2 x hx
      exact ⟨a1, by omega, by simp only [List.mem_append, List.mem_singleton, not_or]; exact ⟨a3, by omega⟩⟩
    · simp only [List.mem_range'_1] at hx
      have hn : 1 ≤ (missA r).2 := by rw [missA_next]; omega
      refine ⟨by omega, by omega, ?_⟩
      simp only [List.mem_append, List.mem_singleton, not_or]
      exact ⟨fun hr => by have := i4 x hr; omega, by omega⟩
  · rw [List.pairwise_append]
    refine ⟨i3, List.pairwise_lt_range', fun x hx y hy => ?_⟩
    simp only [List.mem_range'_1] at hy
    have := i2 x hx
    omega
  · rcases List.mem_append.1 he with he | he
    · have := i4 e he; omega
    · simp at he; omega
section
variable {n : Int} {X : List Int} {a : Option Addr} {cc : Nat} {b m : Nat} {cum : Int} {S L : List Nat} {N : Int}
theorem off_range (cum : Int) (x : Nat) : 0 ≤ (cum + (x : Int)) % 4294967296 ∧ (cum + (x : Int)) % 4294967296 < 4294967296 := ⟨Int.emod_nonneg _ (by decide), Int.emod_lt_of_pos _ (by decide)⟩
theorem c6_loop {w0 : World} (hs : SetR w0 b m cum S) (hrd : Rd w0 a (numV cum L)) (hL : ∀ x ∈ L, 1 ≤ x ∧ (x : Int) < N ∧ x ≤ 65535 ∧ x ∉ S) (hri : L.Pairwise (· < ·)) (hlen : L.length ≤ 65535) {K0 : World → Prop} {Kr : Value → World → Prop} : ∀ (i j : Nat) (w : World) (k : Nat),
    j + i = L.length → Same w0 w → i < k → (∀ w', Same w0 w' → K0 w') →
    F6_1 K0 Kr k (.pointer (some ⟨b, 0, none⟩)) (.slice a L.length cc) (.int .i64 N) (.int .i64 (j : Int)) w := by
  intro i
  induction i with
  | zero =>
    intro j w k hj hf hk hK
    obtain ⟨k, rfl⟩ : ∃ j, k = j + 1 := ⟨k - 1, by omega⟩
    show F6_1B _ _ _ _ _ _ _ _
    unfold F6_1B
    simp only [rdP_mk, rdI_mk, rdC_mk, br_dec]
    exact ⟨fun h => by exfalso; omega, fun _ => hK w hf⟩
  | succ i ih =>
    intro j w k hj hf hk hK
    obtain ⟨k, rfl⟩ : ∃ j, k = j + 1 := ⟨k - 1, by omega⟩
    show F6_1B _ _ _ _ _ _ _ _
    unfold F6_1B drw
    simp only [rdP_mk, rdI_mk, rdC_mk, br_dec]
    refine ⟨fun _ => ?_, fun h => by exfalso; omega⟩
    obtain ⟨x, hx⟩ : ∃ x, L[j]? = some x := ⟨L[j]'(by omega), by simp⟩
    obtain ⟨x1, x2, x3, x4⟩ := hL x (List.mem_of_getElem? hx)
    have hg : ∀ {j x : Nat}, L[j]? = some x → (numV cum L)[j]? = some (.int .u32 ((cum + (x : Int)) % 4294967296)) := fun hx => by simp [numV, hx]
    have g1 : Same w0 w.drew := hf.drew
    have hr1 := Rd.same hrd g1
    obtain ⟨ad, rfl⟩ := hr1.some (by simp [numV]; omega)
    refine ixS_of (by omega) (by omega) ?_
    simp only [Int.toNat_natCast, Nat.mul_one]
    refine ldI_c (hr1.at (hg hx)) ?_
    refine clr (c10 (hs.same g1)) ⟨_, rfl, Pres.refl _, ?_⟩
    have hc0 := hs.c0
    have hc1 := hs.c1
    obtain ⟨o1, o2⟩ := off_range cum x
    refine clr (c19 _ _ _ hc0 hc1 o1 o2) ⟨_, rfl, ?_⟩
    have e0 : cum = (cum + ((0 : Nat) : Int)) % 4294967296 := by omega
    have hsd : sd cum ((cum + (x : Int)) % 4294967296) = x := by
      have := sd_off (n := cum) (x := x) (k := ((0 : Nat) : Int)) (by omega) (by omega) (by omega) (by omega)
      rw [← e0] at this
      omega
    have g2 : Same w0 w.drew.drew := g1.drew
    have hr2 := Rd.same hrd g2
    refine ixS_of (by omega) (by omega) ?_
    simp only [Int.toNat_natCast, Nat.mul_one]
    refine ldI_c (hr2.at (hg hx)) ?_
    refine cl (c21 (hs.same g2) _) ?_
    rintro _ w3 ⟨rfl, f3⟩
    refine ⟨_, rfl, ?_⟩
    have hhas : hasS cum S ((cum + (x : Int)) % 4294967296) = false := by
      unfold hasS
      rw [hsd]
      simp [x4]; omega
    rw [hhas, br_false, hsd]
    refine ⟨fun h => by exfalso; omega, fun _ => ⟨fun h => by exfalso; omega, fun _ => ?_⟩⟩
    have g3 : Same w0 w3 := g2.trans f3 fun _ _ x => x
    have hr3 := Rd.same hrd g3
    have e1 : IntKind.wrap .i64 ((j : Int) + 1) = ((j + 1 : Nat) : Int) := by rw [wrap_i64 (by omega) (by omega)]; omega
    rw [e1]
    refine ⟨fun hj0 => ?_, fun _ => ih (j + 1) w3 k (by omega) g3 (by omega) hK⟩
    obtain ⟨y, hy⟩ : ∃ x, L[j - 1]? = some x := ⟨L[j - 1]'(by omega), by simp⟩
    obtain ⟨y1, y2, y3, y4⟩ := hL y (List.mem_of_getElem? hy)
    have e2 : IntKind.wrap .i64 ((j : Int) - 1) = ((j - 1 : Nat) : Int) := by rw [wrap_i64 (by omega) (by omega)]; omega
    rw [e2]
    refine ixS_of (by omega) (by omega) ?_
    simp only [Int.toNat_natCast, Nat.mul_one]
    refine ldI_c (hr3.at (hg hy)) (ixS_of (by omega) (by omega) ?_)
    simp only [Int.toNat_natCast, Nat.mul_one]
    refine ldI_c (hr3.at (hg hx)) ?_
    obtain ⟨o3, o4⟩ := off_range cum y
    refine clr (c22 _ _ _ o3 o4 o1 o2) ⟨_, rfl, ?_⟩
    have hlt : y < x := by
      have := List.pairwise_iff_getElem.1 hri (j - 1) j (by omega) (by omega) (by omega)
      have a1 := List.getElem?_eq_getElem (l := L) (i := j - 1) (by omega)
      have a2 := List.getElem?_eq_getElem (l := L) (i := j) (by omega)
      rw [hy] at a1; rw [hx] at a2
      simp only [Option.some.injEq] at a1 a2
      rw [a1, a2]; exact this
    have hpos : sd ((cum + (y : Int)) % 4294967296) ((cum + (x : Int)) % 4294967296) > 0 := by
      rw [sd_off (by omega) (by omega) (by omega) (by omega)]; omega
    rw [decide_eq_true hpos]
    simp only [Bool.not_true, br_false]
    exact ih (j + 1) w3 k (by omega) g3 (by omega) hK
theorem c6 {w : World} (ht : TB w) (hn0 : 0 ≤ n) (hn1 : n < 4294967296) (hX : ∀ x ∈ X, 0 ≤ x ∧ x ≤ 65535) (hr : Rd w a (X.map (Value.int .u16))) :
    Calls Tryd.prog 6 #[.int .u32 n, .slice a X.length cc] w (rt fun v w' => v = .bool true ∧ Same w w') := by
  refine F6_ok ?_
  unfold F6
  simp only [rdC_mk, rdI_mk]
  refine cl (c9 ht hn0 hn1 hX hr) ?_
  rintro _ w1 ⟨b, m, k, S, rfl, F⟩
  refine ⟨_, _, rfl, ?_⟩
  simp only [Bool.not_true, br_false]
  have hS := F.set
  generalize (n + (k : Int)) % 4294967296 = cum at hS
  refine cl (c12 (ht.fr F.fr fun x => x) hS) ?_
  rintro _ w2 ⟨a2, c2, rfl, o2, f2⟩
  refine ⟨_, _, _, rfl, ?_⟩
  have g2 : Same w w2 := F.fr.trans f2 fun _ _ x => x
  refine cl (c18 (ht.fr g2 fun x => x) (hS.same f2) 70000) ?_
  rintro _ w3 ⟨a3, c3, rfl, o3, f3⟩
  refine ⟨_, _, _, rfl, ?_⟩
  have g3 : Same w w3 := g2.trans f3 fun _ _ x => x
  have s3 := (hS.same f2).same f3
  obtain ⟨i1, i2, i3, i4⟩ := missA_inv S hS.rising fun d hd => by have := hS.rng d hd; omega
  have hnx : (missA S).2 ≤ 65536 := by
    rw [missA_next]
    rcases List.eq_nil_or_concat S with rfl | ⟨r, e, rfl⟩
    · simp
    · have := hS.rng e (by simp)
      simp [List.getLastD_eq_getLast?]; omega
  have hms : missS S 70000 = (missA S).1 := List.take_of_length_le (by simp; omega)
  rw [hms] at o3 ⊢
  refine clr (c10 s3) ⟨_, rfl, ?_⟩
  refine cl (c20 (ht.fr g3 fun x => x) s3) ?_
  rintro _ w4 ⟨rfl, f4⟩
  refine ⟨_, rfl, ?_⟩
  have g4 : Same w w4 := g3.trans f4 fun _ _ x => x
  obtain ⟨h1, h2⟩ := off_range cum (S.getLastD 0)
  refine clr (c19 _ _ _ hS.c0 hS.c1 h1 h2) ⟨_, rfl, ?_⟩
  have hl : S.getLastD 0 + 1 = (missA S).2 := (missA_next S).symm
  have hc0 := hS.c0
  have hc1 := hS.c1
  have hsd : sd cum (highS cum S) = (S.getLastD 0 : Nat) := by
    unfold highS
    have e0 : cum = (cum + ((0 : Nat) : Int)) % 4294967296 := by omega
    have := sd_off (n := cum) (x := (S.getLastD 0 : Nat)) (k := ((0 : Nat) : Int)) (by omega) (by omega) (by omega) (by omega)
    rw [← e0] at this
    omega
  have hn : sd cum ((cum + (S.getLastD 0 : Nat)) % 4294967296) = (S.getLastD 0 : Nat) := hsd
  have e1 : IntKind.wrap .i64 ((S.length : Int) + ((missA S).1.length : Int)) = ((S.getLastD 0 : Nat) : Int) := by rw [wrap_i64 (by omega) (by omega)]; omega
  rw [hsd, e1]
  simp only [bne_self_eq_false, br_false]
  have s4 := s3.same f4
  refine ⟨(missA S).1.length + 1, c6_loop (w0 := w4) s4 (Rd.same o3.rd f4) (fun x hx => ?_) i3 (by omega) (missA S).1.length 0 w4 _ (by omega) (Fr.refl w4) (by omega) fun w5 f5 _g => ?_⟩
  · obtain ⟨x1, x2, x3⟩ := i2 x hx
    refine ⟨x1, ?_, by omega, x3⟩
    have hne : x ≠ S.getLastD 0 := by
      intro e
      rcases List.eq_nil_or_concat S with rfl | ⟨r, d, rfl⟩
      · simp [missA] at hx
      · apply x3
        rw [e]
        simp [List.getLastD_eq_getLast?]
    omega
  · have g5 : Same w w5 := g4.trans f5 fun _ _ x => x
    refine cl (c13 (ht.fr g5 fun x => x)) ?_
    rintro _ w7 ⟨rfl, f7⟩
    exact ⟨_, rfl, rfl, g5.trans f7 fun _ _ x => x⟩
end
end Go.Proofs.YtjcigidbnpmeaaaDoor
