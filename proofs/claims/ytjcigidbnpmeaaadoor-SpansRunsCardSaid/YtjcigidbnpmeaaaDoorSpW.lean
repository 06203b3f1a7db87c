/- Own text: part of the shallow reading of the code and of the contracts that are proved over it. -/
import Derived.Test.YtjcigidbnpmeaaaDoorSpV
namespace Go.Proofs.YtjcigidbnpmeaaaDoor
open Go Go.Sh Go.Sp

/-! the document's From, and the law SpansFrom -/
theorem c15b : True := trivial
/-- how many blocks begin at k, less those that ended ahead of it -/
def ed : List (Nat × Nat) → Nat → Int
  | [], _ => 0
  | p :: G, k => ed G k + ((if p.1 = k then 1 else 0) - (if p.2 + 1 = k then 1 else 0))
def opn : List (Nat × Nat) → Nat → Int
  | [], _ => 0
  | p :: G, k => opn G k + (if p.1 ≤ k ∧ k ≤ p.2 then 1 else 0)
theorem ed_snoc (G : List (Nat × Nat)) (p : Nat × Nat) (k : Nat) : ed (G ++ [p]) k = ed G k + ((if p.1 = k then 1 else 0) - (if p.2 + 1 = k then 1 else 0)) := by
  induction G with
  | nil => simp [ed]
  | cons q G ih => simp only [List.cons_append, ed, ih]; omega
theorem ed_bound (G : List (Nat × Nat)) (k : Nat) : -(G.length : Int) ≤ ed G k ∧ ed G k ≤ G.length := by
  induction G with
  | nil => simp [ed]
  | cons p G ih =>
    simp only [ed, List.length_cons]
    split <;> split <;> omega
theorem opn_bound (G : List (Nat × Nat)) (k : Nat) : 0 ≤ opn G k ∧ opn G k ≤ G.length := by
  induction G with
  | nil => simp [opn]
  | cons p G ih =>
    simp only [opn, List.length_cons]
    split <;> omega
theorem opn_step (G : List (Nat × Nat)) (h : ∀ p ∈ G, p.1 ≤ p.2) (k : Nat) : opn G (k + 1) = opn G k + ed G (k + 1) := by
  induction G with
  | nil => simp [opn, ed]
  | cons p G ih =>
    have ih' := ih fun q hq => h q (by simp [hq])
    have hp := h p (by simp)
    simp only [opn, ed, ih']
    by_cases a1 : p.1 ≤ k + 1 ∧ k + 1 ≤ p.2
    · rw [if_pos a1]
      by_cases a2 : p.1 ≤ k ∧ k ≤ p.2
      · rw [if_pos a2, if_neg (by omega), if_neg (by omega)]; omega
      · rw [if_neg a2, if_pos (by omega), if_neg (by omega)]; omega
    · rw [if_neg a1]
      by_cases a2 : p.1 ≤ k ∧ k ≤ p.2
      · rw [if_pos a2, if_neg (by omega), if_pos (by omega)]; omega
      · rw [if_neg a2, if_neg (by omega), if_neg (by omega)]; omega
theorem opn_one (G : List (Nat × Nat)) (h : ∀ p ∈ G, 2 ≤ p.1) : opn G 1 = 0 := by
  induction G with
  | nil => rfl
  | cons p G ih =>
    have hp := h p (by simp)
    simp only [opn, ih fun q hq => h q (by simp [hq])]
    rw [if_neg (by omega)]; omega
theorem opn_pos (G : List (Nat × Nat)) (k : Nat) : opn G k > 0 ↔ inG G k := by
  induction G with
  | nil => simp [opn, inG]
  | cons p G ih =>
    have hb := opn_bound G k
    simp only [opn]
    constructor
    · intro h
      by_cases a1 : p.1 ≤ k ∧ k ≤ p.2
      · exact ⟨p, by simp, a1⟩
      · rw [if_neg a1] at h
        obtain ⟨q, hq, hk⟩ := ih.1 (by omega)
        exact ⟨q, by simp [hq], hk⟩
    · rintro ⟨q, hq, hk⟩
      rcases List.mem_cons.1 hq with rfl | hq
      · rw [if_pos hk]; omega
      · have := ih.2 ⟨q, hq, hk⟩
        split <;> omega
def rowV (f : Nat → Int) : List Value := (List.range 65537).map fun k => Value.int .i64 (f k)
theorem rowV_at {f : Nat → Int} {k : Nat} (h : k < 65537) : (rowV f)[k]? = some (.int .i64 (f k)) := by simp [rowV, h]
theorem rowV_length (f : Nat → Int) : (rowV f).length = 65537 := by simp [rowV]
theorem rowV_set (f : Nat → Int) (j : Nat) (v : Int) : (rowV f).set j (.int .i64 v) = rowV fun k => if k = j then v else f k := by
  apply List.ext_getElem?
  intro i
  rcases Nat.lt_or_ge i 65537 with hi | hi
  · rw [rowV_at hi, List.getElem?_set]
    by_cases hij : j = i
    · subst hij; simp [rowV_length, hi]
    · rw [if_neg hij, rowV_at hi, if_neg (Ne.symm hij)]
  · rw [List.getElem?_eq_none (by rw [List.length_set, rowV_length]; exact hi), List.getElem?_eq_none (by rw [rowV_length]; exact hi)]
section
variable {n : Int} {G : List (Nat × Nat)} {a ea : Option Addr} {cc : Nat} {b : Nat} {cum : Int}
theorem r16_chk {w0 : World} {K0 : Value → Value → World → Prop} {Kr : Value → Value → World → Prop} (hr : Rd w0 a (gapV G)) (hl : G.length ≤ 4096) (hG : ∀ p ∈ G, p.1 ≤ 65535 ∧ p.2 ≤ 65535) : ∀ (i j : Nat) (w : World) (k : Nat),
    j + i = G.length → Same w0 w → Own w w0.heap.size 3 1 ea 65537 65537 (rowV (ed (G.take j))) → (∀ p ∈ G.take j, ¬ badG p) → i < k →
    ((∀ p ∈ G, ¬ badG p) → ∀ w', Same w0 w' → Own w' w0.heap.size 3 1 ea 65537 65537 (rowV (ed G)) → K0 (.int .u32 n) (.slice ea 65537 65537) w') → ((∃ p ∈ G, badG p) → ∀ w', Same w0 w' → Kr (.pointer none) (.int .i64 30) w') →
    F16_3 K0 Kr k (.int .u32 n) (.slice a G.length cc) (.slice ea 65537 65537) (.int .i64 (j : Int)) w := by
  intro i
  induction i with
  | zero =>
    intro j w k hj hf ho hgood hk h0 hr'
    obtain ⟨k, rfl⟩ : ∃ j, k = j + 1 := ⟨k - 1, by omega⟩
    show F16_3B _ _ _ _ _ _ _ _
    unfold F16_3B
    simp only [rdI_mk, rdC_mk, br_dec]
    rw [List.take_of_length_le (by omega)] at ho hgood
    exact ⟨fun h => by exfalso; omega, fun _ => h0 hgood w hf ho⟩
  | succ i ih =>
    intro j w k hj hf ho hgood hk h0 hbad
    obtain ⟨k, rfl⟩ : ∃ j, k = j + 1 := ⟨k - 1, by omega⟩
    show F16_3B _ _ _ _ _ _ _ _
    unfold F16_3B drw
    simp only [rdI_mk, rdC_mk, br_dec]
    refine ⟨fun _ => ?_, fun h => by exfalso; omega⟩
    obtain ⟨p, hp⟩ : ∃ x, G[j]? = some x := ⟨G[j]'(by omega), by simp⟩
    have hpm := List.mem_of_getElem? hp
    obtain ⟨p1, p2⟩ := hG p hpm
    obtain ⟨g1, g1'⟩ := gapV_at hp
    have f0 : Same w w.drew := (Fr.refl w).drew
    have hf1 : Same w0 w.drew := hf.drew
    have hr' := Rd.same hr hf1
    obtain ⟨ad, rfl⟩ := hr'.some (by rw [gapV_length]; omega)
    refine ixS_of (by omega) (by omega) ?_
    simp only [Int.toNat_natCast, add_add, Nat.add_zero]
    refine ldI_c (hr'.at g1) ⟨fun h => hbad ⟨p, hpm, .inl (by omega)⟩ _ hf1, fun h => ixS_of (by omega) (by omega) ?_⟩
    simp only [Int.toNat_natCast, add_add, Nat.add_zero]
    refine ldI_c (hr'.at g1') (ixS_of (by omega) (by omega) ?_)
    simp only [Int.toNat_natCast, add_add, Nat.add_zero]
    refine ldI_c (hr'.at g1) ⟨fun h' => hbad ⟨p, hpm, .inr (by omega)⟩ _ hf1, fun h' => ?_⟩
    unfold F16_1 drw
    simp only [rdI_mk, rdC_mk]
    have f2 : Same w w.drew.drew := f0.drew
    have hf2 : Same w0 w.drew.drew := hf1.drew
    have hr2 := Rd.same hr hf2
    have ho2 := ho.fr f2 fun _ _ x => x
    obtain ⟨eb, rfl⟩ := ho2.rd.some (by rw [rowV_length]; omega)
    refine ixS_of (by omega) (by omega) ?_
    simp only [Int.toNat_natCast, add_add, Nat.add_zero]
    refine ldI_c (hr2.at g1) (ixS_of (by omega) (by omega) ?_)
    simp only [Int.toNat_natCast, add_add, Nat.add_zero]
    refine ldI_c (hr2.at g1') ?_
    rw [wrap_i64 (n := (p.1 : Int)) (by omega) (by omega), wrap_i64 (n := (p.2 : Int)) (by omega) (by omega)]
    refine ixS_of (by omega) (by omega) ?_
    simp only [Int.toNat_natCast, Nat.mul_one]
    refine ldI_c (ho2.rd.at (rowV_at (by omega))) (ixS_of (by omega) (by omega) ?_)
    simp only [Int.toNat_natCast, Nat.mul_one]
    refine ho2.put (by rw [rowV_length]; omega) fun w3 o3 f3 => ?_
    rw [rowV_set] at o3
    have e2 : IntKind.wrap .i64 ((p.2 : Int) + 1) = ((p.2 + 1 : Nat) : Int) := by rw [wrap_i64 (by omega) (by omega)]; omega
    rw [e2]
    refine ixS_of (by omega) (by omega) ?_
    simp only [Int.toNat_natCast, Nat.mul_one]
    refine ldI_c (o3.rd.at (rowV_at (by omega))) (ixS_of (by omega) (by omega) ?_)
    simp only [Int.toNat_natCast, Nat.mul_one]
    refine o3.put (by rw [rowV_length]; omega) fun w4 o4 f4 _g => ?_
    rw [rowV_set] at o4
    have e1 : IntKind.wrap .i64 ((j : Int) + 1) = ((j + 1 : Nat) : Int) := by rw [wrap_i64 (by omega) (by omega)]; omega
    rw [e1]
    have hb : ∀ k, inB (some eb) k → w0.heap.size ≤ k := fun k x => (ho2.base_le x).1
    have hf4 : Same w0 w4 := (((hf2.mono (S' := fun k => w0.heap.size ≤ k) fun _ _ x => x.elim).trans f3 fun i _ x => hb i x).trans f4 fun i _ x => hb i x).mono fun i hi x => by omega
    have htake : G.take (j + 1) = G.take j ++ [p] := by rw [List.take_add_one, hp]; rfl
    refine ih (j + 1) w4 k (by omega) hf4 ?_ (fun q hq => ?_) (by omega) h0 hbad
    · have hlen : (G.take j).length ≤ 4096 := by rw [List.length_take]; omega
      have hbd := fun k => ed_bound (G.take j) k
      rw [htake]
      have : (fun k => if k = p.2 + 1 then IntKind.wrap .i64 ((if p.2 + 1 = p.1 then IntKind.wrap .i64 (ed (G.take j) p.1 + 1) else ed (G.take j) (p.2 + 1)) - 1) else if k = p.1 then IntKind.wrap .i64 (ed (G.take j) p.1 + 1) else ed (G.take j) k) = ed (G.take j ++ [p]) := by
        funext k
        rw [ed_snoc]
        have b1 := hbd p.1
        have b2 := hbd (p.2 + 1)
        rw [wrap_i64 (n := ed (G.take j) p.1 + 1) (by omega) (by omega), if_neg (show ¬ p.2 + 1 = p.1 by omega), wrap_i64 (n := ed (G.take j) (p.2 + 1) - 1) (by omega) (by omega)]
        by_cases k1 : k = p.2 + 1
        · subst k1; rw [if_pos rfl, if_neg (by omega), if_pos rfl]; omega
        · rw [if_neg k1]
          by_cases k2 : k = p.1
          · subst k2; rw [if_pos rfl, if_pos rfl, if_neg (by omega)]; omega
          · rw [if_neg k2, if_neg (by omega), if_neg (by omega)]; omega
      rw [this] at o4
      exact o4
    · rw [htake] at hq
      simp only [List.mem_append, List.mem_singleton] at hq
      rcases hq with hq | rfl
      · exact hgood q hq
      · unfold badG; omega
/-- the set as it grows -/
theorem r16_out {w0 : World} {K2 : Value → World → Prop} (hl : G.length ≤ 4096) (hG : ∀ p ∈ G, 2 ≤ p.1 ∧ p.1 ≤ p.2) (he : Own w0 0 3 1 ea 65537 65537 (rowV (ed G))) (hne : ¬ inB ea b) : ∀ (i j : Nat) (w : World) (k : Nat) (sa : Option Addr) (S : List Nat) (z : Int), z = opn G (j - 1) →
    j + i = 65536 → 2 ≤ j → Fr (fun k => k = b ∨ w0.heap.size ≤ k) w0 w → RefR w b sa cum S → (∀ k, inB sa k → w0.heap.size ≤ k) → (∀ x, x ∈ S ↔ x < j ∧ inG G x) → i < k →
    (∀ w' sa' S', Fr (fun k => k = b ∨ w0.heap.size ≤ k) w0 w' → RefR w' b sa' cum S' → (∀ k, inB sa' k → w0.heap.size ≤ k) → (∀ x, x ∈ S' ↔ x < 65536 ∧ inG G x) → K2 (.pointer (some ⟨b, 0, none⟩)) w') →
    F16_2 K2 k (.slice ea 65537 65537) (.pointer (some ⟨b, 0, none⟩)) (.int .i64 z) (.int .i64 (j : Int)) w := by
  intro i
  induction i with
  | zero =>
    intro j w k sa S z hz hj h2 hf hR hsa hS hk hK
    subst hz
    obtain ⟨k, rfl⟩ : ∃ j, k = j + 1 := ⟨k - 1, by omega⟩
    show F16_2B _ _ _ _ _ _ _
    unfold F16_2B
    simp only [rdI_mk, rdC_mk, rdP_mk, br_dec]
    have : j = 65536 := by omega
    subst this
    exact ⟨fun h => by exfalso; omega, fun _ => hK w sa S hf hR hsa hS⟩
  | succ i ih =>
    intro j w k sa S z hz hj h2 hf hR hsa hS hk hK
    subst hz
    obtain ⟨k, rfl⟩ : ∃ j, k = j + 1 := ⟨k - 1, by omega⟩
    show F16_2B _ _ _ _ _ _ _
    unfold F16_2B alc
    simp only [rdI_mk, rdC_mk, rdP_mk, br_dec]
    refine ⟨fun _ => ?_, fun h => by exfalso; omega⟩
    have hew := he.fr hf fun k hk x => by
      rcases x with rfl | x
      · exact hne hk
      · have := (he.base_le hk).2; omega
    obtain ⟨eb, rfl⟩ := hew.rd.some (by rw [rowV_length]; omega)
    refine ixS_of (by omega) (by omega) ?_
    simp only [Int.toNat_natCast, Nat.mul_one]
    refine ldI_c (hew.rd.at (rowV_at (by omega))) ?_
    have hst := opn_step G (fun p hp => (hG p hp).2) (j - 1)
    rw [show j - 1 + 1 = j by omega] at hst
    have hb1 := opn_bound G j
    have e0 : IntKind.wrap .i64 (opn G (j - 1) + ed G j) = opn G j := by rw [← hst, wrap_i64 (by omega) (by omega)]
    have e1 : IntKind.wrap .i64 ((j : Int) + 1) = ((j + 1 : Nat) : Int) := by rw [wrap_i64 (by omega) (by omega)]; omega
    rw [e0, e1]
    have e2 : opn G j = opn G (j + 1 - 1) := by rw [Nat.add_sub_cancel]
    refine ⟨fun hpos => ?_, fun hpos => ?_⟩
    · obtain ⟨c, k1, k2⟩ := hR.blk
      simp only [nn_some, add_mk]
      refine ldC_at k1 rfl ?_
      have hlen := hR.len
      have hbl := hR.blt
      refine push E54 k2 (news := #[_]) rfl (by simp [Value.oneCell']) (by omega) (by omega) (by omega) ?_
      intro a2 c2 w2 q1 q2 q3
      have nb : ∀ x, inB sa x → b < x := fun x hx => (hR.alt hx).1
      have b2 := q2.blk k1 fun x => by have := nb b x; omega
      refine stc_at b2 (by simp) ?_
      generalize hw3 : sb w2 b _ = w3
      have f3 : Fr (fun k => k = b ∨ w0.heap.size ≤ k) w w3 := by
        rw [← hw3]
        exact (q2.mono (S' := fun k => k = b ∨ w0.heap.size ≤ k) fun x _ hx => .inr (hsa x hx)).sb fun _ => .inl rfl
      have b3 : w3.heap[b]? = some (.cells #[.int .u32 cum, .slice a2 (S.length + 1) c2] 56 (0, 0)) := by rw [← hw3]; exact sb_same b2
      have o3 : Own w3 (b + 1) 3 1 a2 (S.length + 1) c2 (atV S ++ [.int .i64 (j : Int)]) := by
        rw [← hw3]
        refine q1.fr ((Fr.refl w2).sb (S := (· = b)) fun _ => rfl) fun x hx e => ?_
        have := (q1.base_le hx).1
        omega
      clear hw3
      rw [e2]
      refine ih (j + 1) w3 k a2 (S ++ [j]) _ rfl (by omega) (by omega) (hf.trans f3 fun x _ hx => hx) ⟨⟨c2, by simpa using b3, by rw [atV_snoc]; simpa using o3⟩, ?_, fun d hd => ?_, hR.c0, hR.c1⟩ (fun x hx => ?_) (fun x => ?_) (by omega) hK
      · rw [List.pairwise_append]
        refine ⟨hR.rising, by simp, fun x hx y hy => ?_⟩
        simp at hy; subst hy
        exact ((hS x).1 hx).1
      · rcases List.mem_append.1 hd with hd | hd
        · exact hR.rng d hd
        · simp at hd; omega
      · rcases q3 x hx with h | h
        · exact hsa x h
        · have := hf.size; omega
      · rw [List.mem_append, hS x, List.mem_singleton]
        constructor
        · rintro (⟨h1, h2⟩ | rfl)
          · exact ⟨by omega, h2⟩
          · exact ⟨by omega, (opn_pos G _).1 hpos⟩
        · rintro ⟨h1, h2⟩
          by_cases hx : x = j
          · exact .inr hx
          · exact .inl ⟨by omega, h2⟩
    · rw [e2]
      refine ih (j + 1) w k sa S _ rfl (by omega) (by omega) hf hR hsa (fun x => ?_) (by omega) hK
      rw [hS x]
      constructor
      · rintro ⟨h1, h2⟩; exact ⟨by omega, h2⟩
      · rintro ⟨h1, hg⟩
        by_cases hx : x = j
        · exact absurd ((opn_pos G j).2 (hx ▸ hg)) hpos
        · exact ⟨by omega, hg⟩
end
end Go.Proofs.YtjcigidbnpmeaaaDoor
