/- Own text: part of the shallow reading of the code and of the contracts that are proved over it. -/
import Derived.Test.YtjcigidbnpmeaaaDoorSpM
namespace Go.Proofs.YtjcigidbnpmeaaaDoor
open Go Go.Sh Go.Sp

/-! From: the set of a report -/
section
variable {w : World} {b m : Nat} {cum : Int} {S : List Nat}
theorem c38 {d : Nat} (h : SetR w b m cum S) (h2 : 2 ≤ d) (h3 : d ≤ 65535) : Calls Tryd.prog 38 #[.pointer (some ⟨b, 0, none⟩), .int .i64 (d : Int)] w (rt fun v w' => v = .bool (!decide (d ∈ S)) ∧ SetR w' b m cum (ins d S) ∧ Fr (Bm b m) w w') := by
  by_cases hm : d ∈ S
  · refine rt_mono (c38_old h.fld (by omega) hm) ?_
    rintro _ _ ⟨rfl, rfl⟩
    rw [ins_same h.rising hm]
    exact ⟨by simp [hm], h.same (Fr.refl w).drew, (Fr.refl w).drew⟩
  · refine rt_mono (c38_new h.fld (by omega) hm (by have := h.len; omega)) ?_
    rintro _ w' ⟨rfl, h4, h5⟩
    refine ⟨by simp [hm], ⟨h4, ins_rising h.rising, fun e he => ?_, h.c0, h.c1⟩, h5⟩
    rcases mem_ins.1 he with rfl | he
    · omega
    · exact h.rng e he
end
/-- a set of this call's own, of the distances that are Q -/
structure SetU (w0 : World) (b m : Nat) (cum : Int) (Q : Nat → Prop) (S : List Nat) (w : World) : Prop where
  set : SetR w b m cum S
  mem : ∀ x, x ∈ S ↔ Q x
  nb : w0.heap.size ≤ b
  nm : w0.heap.size ≤ m
  fr : Same w0 w
section
variable {n : Int} {G : List (Nat × Nat)} {a : Option Addr} {cc : Nat} {b m : Nat} {cum : Int}
def inG (G : List (Nat × Nat)) (x : Nat) : Prop := ∃ p ∈ G, p.1 ≤ x ∧ x ≤ p.2
theorem c14_in {w0 : World} {K4 : Value → Value → Value → Value → World → Prop} {Q : Nat → Prop} {p : Nat × Nat} {g : Nat} {l4 : Value} {n5 n6 : Int} (hl4 : ∃ a l c, l4 = .slice a l c) (hp1 : 2 ≤ p.1) (hp2 : p.2 ≤ 65535) (hgb : b < g) (hgm : m < g) : ∀ (i j : Nat) (w : World) (k : Nat) (S : List Nat),
    p.2 + 1 - j = i → p.1 ≤ j → SetU w0 b m cum (fun x => Q x ∨ (p.1 ≤ x ∧ x < j ∧ x ≤ p.2)) S w → w.heap[g]? = some (.cells #[.int .u16 (p.1 : Int), .int .u16 (p.2 : Int)] 74 (0, 0)) → i < k →
    (∀ w' S', SetU w0 b m cum (fun x => Q x ∨ (p.1 ≤ x ∧ x ≤ p.2)) S' w' → K4 (.pointer (some ⟨b, 0, none⟩)) l4 (.int .i64 n5) (.int .i64 n6) w') →
    F14_1 K4 k (.pointer (some ⟨b, 0, none⟩)) (.pointer (some ⟨g, 0, none⟩)) (.int .i64 (j : Int)) l4 (.int .i64 n5) (.int .i64 n6) w := by
  obtain ⟨la, ll, lc, rfl⟩ := hl4
  intro i
  induction i with
  | zero =>
    intro j w k S hi hj hU hg hk hK
    obtain ⟨k, rfl⟩ : ∃ j, k = j + 1 := ⟨k - 1, by omega⟩
    show F14_1B _ _ _ _ _ _ _ _ _
    unfold F14_1B
    simp only [rdP_mk, rdA_mk, rdI_mk, rdC_mk, add_mk]
    refine ldI_at hg rfl ?_
    rw [wrap_i64 (n := (p.2 : Int)) (by omega) (by omega)]
    simp only [br_dec]
    refine ⟨fun h => by exfalso; omega, fun _ => hK w S ⟨hU.set, fun x => ?_, hU.nb, hU.nm, hU.fr⟩⟩
    rw [hU.mem]
    constructor
    · rintro (h | h)
      · exact .inl h
      · exact .inr ⟨h.1, h.2.2⟩
    · rintro (h | h)
      · exact .inl h
      · exact .inr ⟨h.1, by omega, h.2⟩
  | succ i ih =>
    intro j w k S hi hj hU hg hk hK
    obtain ⟨k, rfl⟩ : ∃ j, k = j + 1 := ⟨k - 1, by omega⟩
    show F14_1B _ _ _ _ _ _ _ _ _
    unfold F14_1B
    simp only [rdP_mk, rdA_mk, rdI_mk, rdC_mk, add_mk, nn_some]
    refine ldI_at hg rfl ?_
    rw [wrap_i64 (n := (p.2 : Int)) (by omega) (by omega)]
    simp only [br_dec]
    refine ⟨fun h => ?_, fun h => by exfalso; omega⟩
    refine cl (c38 hU.set (by omega) (by omega)) ?_
    rintro _ w' ⟨rfl, h4, h5⟩
    refine ⟨_, rfl, ?_⟩
    have e1 : IntKind.wrap .i64 ((j : Int) + 1) = ((j + 1 : Nat) : Int) := by rw [wrap_i64 (by omega) (by omega)]; omega
    rw [e1]
    refine ih (j + 1) w' k _ (by omega) (by omega) ⟨h4, fun x => ?_, hU.nb, hU.nm, same_bm hU.fr h5 hU.nb hU.nm⟩ (h5.blk hg (by rintro (x | x) <;> omega)) (by omega) hK
    rw [mem_ins, hU.mem]
    constructor
    · rintro (rfl | h | h)
      · exact .inr ⟨hj, by omega, by omega⟩
      · exact .inl h
      · exact .inr ⟨h.1, by omega, h.2.2⟩
    · rintro (h | h)
      · exact .inr (.inl h)
      · by_cases hx : x = j
        · exact .inl hx
        · exact .inr (.inr ⟨h.1, by omega, h.2.2⟩)
theorem c14_out {w0 : World} {K2 : Value → World → Prop} (hr : Rd w0 a (gapV G)) (hG : ∀ p ∈ G, 2 ≤ p.1 ∧ p.1 ≤ 65535 ∧ p.2 ≤ 65535) (hl : G.length ≤ 4096) : ∀ (i j : Nat) (w : World) (k : Nat) (S : List Nat),
    j + i = G.length → SetU w0 b m cum (inG (G.take j)) S w → i < k →
    (∀ w' S', SetU w0 b m cum (inG G) S' w' → K2 (.pointer (some ⟨b, 0, none⟩)) w') →
    F14_2 K2 k (.pointer (some ⟨b, 0, none⟩)) (.slice a G.length cc) (.int .i64 (G.length : Int)) (.int .i64 (j : Int)) w := by
  intro i
  induction i with
  | zero =>
    intro j w k S hj hU hk hK
    obtain ⟨k, rfl⟩ : ∃ j, k = j + 1 := ⟨k - 1, by omega⟩
    show F14_2B _ _ _ _ _ _ _
    unfold F14_2B
    simp only [rdP_mk, rdI_mk, rdC_mk, br_dec]
    refine ⟨fun h => by exfalso; omega, fun _ => hK w S ?_⟩
    rwa [List.take_of_length_le (by omega)] at hU
  | succ i ih =>
    intro j w k S hj hU hk hK
    obtain ⟨k, rfl⟩ : ∃ j, k = j + 1 := ⟨k - 1, by omega⟩
    show F14_2B _ _ _ _ _ _ _
    unfold F14_2B alc
    simp only [rdP_mk, rdI_mk, rdC_mk, br_dec]
    refine ⟨fun _ => ?_, fun h => by exfalso; omega⟩
    obtain ⟨p, hp⟩ : ∃ x, G[j]? = some x := ⟨G[j]'(by omega), by simp⟩
    obtain ⟨p1, p2, p3⟩ := hG p (List.mem_of_getElem? hp)
    obtain ⟨g1, g1'⟩ := gapV_at hp
    have hr' := Rd.same hr hU.fr
    obtain ⟨ad, rfl⟩ := hr'.some (by rw [gapV_length]; omega)
    refine ixS_of (by omega) (by omega) ?_
    simp only [Int.toNat_natCast, add_add, Nat.add_zero]
    refine ldI_c (hr'.at g1) (ldI_c (hr'.at g1') ?_)
    simp only [add_mk, Nat.add_zero]
    have hb := hU.set.blt
    have hm := hU.set.mlt
    refine stc_at (alloc_new w _) (by simp) (stc_at (sb_same (alloc_new w _)) (by simp) ?_)
    generalize hw2 : sb (sb _ _ _) _ _ = w2
    have z2 : w2.heap.size = w.heap.size + 1 := by rw [← hw2]; simp
    have q2 : w2.heap[w.heap.size]? = some (.cells #[.int .u16 (p.1 : Int), .int .u16 (p.2 : Int)] 74 (0, 0)) := by rw [← hw2]; exact sb_same (sb_same (alloc_new w _))
    have f2 : Same w w2 := by rw [← hw2]; exact (((Fr.refl w).alloc _).sb fun x => by omega).sb fun x => by omega
    clear hw2
    refine ldI_at q2 rfl ⟨p.2 + 1 - p.1 + 1, ?_⟩
    rw [wrap_i64 (n := (p.1 : Int)) (by omega) (by omega)]
    refine c14_in (w0 := w0) (Q := inG (G.take j)) (p := p) ⟨_, _, _, rfl⟩ p1 p3 hb hm _ p.1 w2 _ S rfl (Nat.le_refl _) ⟨hU.set.same f2, fun x => ?_, hU.nb, hU.nm, hU.fr.trans f2 fun _ _ x => x⟩ q2 (by omega) fun w' S' hU' _g => ?_
    · rw [hU.mem]
      constructor
      · exact fun h => .inl h
      · rintro (h | h)
        · exact h
        · exfalso; omega
    · simp only [rdP_mk, rdI_mk, rdC_mk]
      have e1 : IntKind.wrap .i64 ((j : Int) + 1) = ((j + 1 : Nat) : Int) := by rw [wrap_i64 (by omega) (by omega)]; omega
      rw [e1]
      refine ih (j + 1) w' k S' (by omega) ⟨hU'.set, fun x => ?_, hU'.nb, hU'.nm, hU'.fr⟩ (by omega) hK
      rw [hU'.mem]
      unfold inG
      rw [List.take_add_one, hp]
      simp only [List.mem_append, Option.toList_some, List.mem_singleton]
      constructor
      · rintro (⟨q, hq, h⟩ | h)
        · exact ⟨q, .inl hq, h⟩
        · exact ⟨p, .inr rfl, h⟩
      · rintro ⟨q, hq | rfl, h⟩
        · exact .inl ⟨q, hq, h⟩
        · exact .inr h
def badG (p : Nat × Nat) : Prop := p.1 < 2 ∨ p.2 < p.1
theorem c14_chk {w0 : World} {K0 : Value → Value → World → Prop} {Kr : Value → Value → World → Prop} (hr : Rd w0 a (gapV G)) (hl : G.length ≤ 4096) (hG : ∀ p ∈ G, p.1 ≤ 65535 ∧ p.2 ≤ 65535) : ∀ (i j : Nat) (w : World) (k : Nat),
    j + i = G.length → Same w0 w → (∀ p ∈ G.take j, ¬ badG p) → i < k → ((∀ p ∈ G, ¬ badG p) → ∀ w', Same w0 w' → K0 (.int .u32 n) (.slice a G.length cc) w') → ((∃ p ∈ G, badG p) → ∀ w', Same w0 w' → Kr (.pointer none) (.int .i64 30) w') →
    F14_3 K0 Kr k (.int .u32 n) (.slice a G.length cc) (.slice a G.length cc) (.int .i64 (G.length : Int)) (.int .i64 (j : Int)) w := by
  intro i
  induction i with
  | zero =>
    intro j w k hj hf hgood hk h0 hr'
    obtain ⟨k, rfl⟩ : ∃ j, k = j + 1 := ⟨k - 1, by omega⟩
    show F14_3B _ _ _ _ _ _ _ _ _
    unfold F14_3B
    simp only [rdI_mk, rdC_mk, br_dec]
    refine ⟨fun h => by exfalso; omega, fun _ => h0 ?_ w hf⟩
    rwa [List.take_of_length_le (by omega)] at hgood
  | succ i ih =>
    intro j w k hj hf hgood hk h0 hbad
    obtain ⟨k, rfl⟩ : ∃ j, k = j + 1 := ⟨k - 1, by omega⟩
    show F14_3B _ _ _ _ _ _ _ _ _
    unfold F14_3B alc
    simp only [rdI_mk, rdC_mk, br_dec]
    refine ⟨fun _ => ?_, fun h => by exfalso; omega⟩
    obtain ⟨p, hp⟩ : ∃ x, G[j]? = some x := ⟨G[j]'(by omega), by simp⟩
    have hpm := List.mem_of_getElem? hp
    obtain ⟨p1, p2⟩ := hG p hpm
    obtain ⟨g1, g1'⟩ := gapV_at hp
    have hr' := Rd.same hr hf
    obtain ⟨ad, rfl⟩ := hr'.some (by rw [gapV_length]; omega)
    refine ixS_of (by omega) (by omega) ?_
    simp only [Int.toNat_natCast, add_add, Nat.add_zero]
    refine ldI_c (hr'.at g1) (ldI_c (hr'.at g1') ?_)
    simp only [add_mk, Nat.add_zero]
    refine stc_at (alloc_new w _) (by simp) (stc_at (sb_same (alloc_new w _)) (by simp) ?_)
    generalize hw2 : sb (sb _ _ _) _ _ = w2
    have q2 : w2.heap[w.heap.size]? = some (.cells #[.int .u16 (p.1 : Int), .int .u16 (p.2 : Int)] 74 (0, 0)) := by rw [← hw2]; exact sb_same (sb_same (alloc_new w _))
    have f2 : Same w w2 := by rw [← hw2]; exact (((Fr.refl w).alloc _).sb fun x => by omega).sb fun x => by omega
    clear hw2
    have g2 : Same w0 w2 := hf.trans f2 fun _ _ x => x
    refine ldI_at q2 rfl ?_
    refine ⟨fun h => hbad ⟨p, hpm, .inl (by omega)⟩ _ g2, fun h => ldI_at q2 rfl (ldI_at q2 rfl ⟨fun h' => hbad ⟨p, hpm, .inr (by omega)⟩ _ g2, fun h' => ?_⟩)⟩
    have e1 : IntKind.wrap .i64 ((j : Int) + 1) = ((j + 1 : Nat) : Int) := by rw [wrap_i64 (by omega) (by omega)]; omega
    rw [e1]
    refine ih (j + 1) w2 k (by omega) g2 (fun q hq => ?_) (by omega) h0 hbad
    rw [List.take_add_one, hp] at hq
    simp only [List.mem_append, Option.toList_some, List.mem_singleton] at hq
    rcases hq with hq | rfl
    · exact hgood q hq
    · unfold badG; omega
/-- what From answers -/
def FromR (w w' : World) (n : Int) (G : List (Nat × Nat)) (v : Value) : Prop :=
  (4096 < G.length ∧ v = .tuple #[.pointer none, .int .i64 3] ∧ Same w w') ∨
  (G.length ≤ 4096 ∧ (∃ p ∈ G, badG p) ∧ v = .tuple #[.pointer none, .int .i64 30] ∧ Same w w') ∨
  (G.length ≤ 4096 ∧ (∀ p ∈ G, ¬ badG p) ∧ ∃ b m S, v = .tuple #[.pointer (some ⟨b, 0, none⟩), .int .i64 0] ∧ SetU w b m n (inG G) S w')
theorem c14 {w : World} (hn0 : 0 ≤ n) (hn1 : n < 4294967296) (hr : Rd w a (gapV G)) (hG : ∀ p ∈ G, p.1 ≤ 65535 ∧ p.2 ≤ 65535) :
    Calls Tryd.prog 14 #[.int .u32 n, .slice a G.length cc] w (rt fun v w' => FromR w w' n G v) := by
  refine F14_ok ?_
  unfold F14
  simp only [rdI_mk, rdC_mk, br_dec]
  refine ⟨fun h => .inl ⟨by omega, rfl, Fr.refl w⟩, fun h => ⟨G.length + 1, c14_chk (w0 := w) hr (by omega) hG G.length 0 w _ (by omega) (Fr.refl w) (by simp) (by omega) (fun hgood w1 f1 _g => ?_) fun hbad w1 f1 _g => ?_⟩⟩
  · simp only [rdI_mk, rdC_mk]
    refine cl (c23 hn0 hn1 w1) ?_
    rintro _ w2 ⟨b, m, rfl, s2, hb, hm, f2⟩
    refine ⟨_, rfl, G.length + 1, ?_⟩
    have z := f1.size
    have g2 : Same w w2 := f1.trans f2 fun _ _ x => x
    refine c14_out (w0 := w) hr (fun p hp => ?_) (by omega) G.length 0 w2 _ [] (by omega) ⟨s2, fun x => by simp [inG], by omega, by omega, g2⟩ (by omega) fun w3 S3 hU _g => ?_
    · have h1 := hG p hp
      have h2 := hgood p hp
      unfold badG at h2
      omega
    · simp only [rdP_mk]
      exact .inr (.inr ⟨by omega, hgood, b, m, S3, rfl, hU⟩)
  · simp only [rdP_mk, rdI_mk]
    exact .inr (.inl ⟨by omega, hbad, rfl, f1⟩)
end
end Go.Proofs.YtjcigidbnpmeaaaDoor
