/- Own text: part of the shallow reading of the code and of the contracts that are proved over it. -/
import Derived.Test.YtjcigidbnpmeaaaDoorSpW
namespace Go.Proofs.YtjcigidbnpmeaaaDoor
open Go Go.Sh Go.Sp
section
variable {n : Int} {G : List (Nat × Nat)} {a : Option Addr} {cc : Nat}
theorem made0 : (madeCells (Value.int .i64 0).cells (65537 * 1)).toList = rowV (ed []) := by
  simp [madeCells, rowV, ed, Value.cells, Nat.mod_one]
def RefFrom (w w' : World) (n : Int) (G : List (Nat × Nat)) (v : Value) : Prop :=
  (4096 < G.length ∧ v = .tuple #[.pointer none, .int .i64 3] ∧ Same w w') ∨
  (G.length ≤ 4096 ∧ (∃ p ∈ G, badG p) ∧ v = .tuple #[.pointer none, .int .i64 30] ∧ Same w w') ∨
  (G.length ≤ 4096 ∧ (∀ p ∈ G, ¬ badG p) ∧ ∃ b a S, v = .tuple #[.pointer (some ⟨b, 0, none⟩), .int .i64 0] ∧ RefR w' b a n S ∧ (∀ x, x ∈ S ↔ x < 65536 ∧ inG G x) ∧ Same w w')
theorem r16 {w : World} (hn0 : 0 ≤ n) (hn1 : n < 4294967296) (hr : Rd w a (gapV G)) (hG : ∀ p ∈ G, p.1 ≤ 65535 ∧ p.2 ≤ 65535) :
    Calls Tryd.prog 16 #[.int .u32 n, .slice a G.length cc] w (rt fun v w' => RefFrom w w' n G v) := by
  refine F16_ok ?_
  unfold F16
  simp only [rdI_mk, rdC_mk, br_dec]
  refine ⟨fun h => .inl ⟨by omega, rfl, Fr.refl w⟩, fun h => ?_⟩
  refine make_own (base := w.heap.size) E54 (n := 65537) (by decide) (by decide) (by decide) (Nat.le_refl _) fun w1 o1 f1 => ?_
  rw [made0] at o1
  refine ⟨G.length + 1, r16_chk (w0 := w) hr (by omega) hG G.length 0 w1 _ (by omega) f1 o1 (by simp) (by omega) (fun hgood w2 f2 o2 _g => ?_) fun hbad w2 f2 _g => ?_⟩
  · simp only [rdI_mk, rdC_mk]
    refine cl (r24 hn0 hn1 w2) ?_
    rintro _ w3 ⟨rfl, R3, f3⟩
    refine ⟨_, rfl, 65535, ?_⟩
    have hg : ∀ p ∈ G, 2 ≤ p.1 ∧ p.1 ≤ p.2 := fun p hp => by have := hgood p hp; unfold badG at this; omega
    have o3 := (o2.fr f3 fun _ _ x => x).mono (base' := 0) (Nat.zero_le _)
    have hz : opn G 1 = 0 := opn_one G fun p hp => (hg p hp).1
    refine r16_out (w0 := w3) (by omega) hg o3 (fun x => ?_) 65534 2 w3 _ none [] 0 hz.symm rfl (Nat.le_refl _) (Fr.refl _) R3 (fun k ⟨_, e, _⟩ => by cases e) (fun x => ?_) (by omega) fun w4 sa S f4 R4 hsa hS _g => ?_
    · have := (o2.base_le x).2; omega
    · simp only [List.not_mem_nil, false_iff, not_and]
      rintro hx ⟨p, hp, h1, _⟩
      have := hg p hp; omega
    · simp only [rdP_mk]
      refine .inr (.inr ⟨by omega, hgood, _, sa, S, rfl, R4, hS, ?_⟩)
      have g3 : Same w w3 := f2.trans f3 fun _ _ x => x
      have := f2.size
      exact ((g3.mono (S' := fun k => w.heap.size ≤ k) fun _ _ x => x.elim).trans f4 fun i hi x => by have := g3.size; omega).mono fun i hi x => by omega
  · simp only [rdP_mk, rdI_mk]
    exact .inr (.inl ⟨by omega, hbad, rfl, f2⟩)
theorem c5 {w : World} (ht : TB w) (hn0 : 0 ≤ n) (hn1 : n < 4294967296) (hr : Rd w a (gapV G)) (hG : ∀ p ∈ G, p.1 ≤ 65535 ∧ p.2 ≤ 65535) :
    Calls Tryd.prog 5 #[.int .u32 n, .slice a G.length cc] w (rt fun v w' => v = .bool true ∧ Same w w') := by
  refine F5_ok ?_
  unfold F5
  simp only [rdI_mk, rdC_mk]
  refine cl (c14 hn0 hn1 hr hG) ?_
  intro v w1 h1
  have f1 : Same w w1 := by
    rcases h1 with ⟨_, _, h⟩ | ⟨_, _, _, h⟩ | ⟨_, _, b, m, S, _, U⟩
    · exact h
    · exact h
    · exact U.fr
  have hbad : ∀ {w'}, Same w w' → Calls Tryd.prog 13 #[] w' (fun e w'' => ∃ b, e = .returned (.bool b) ∧ (Value.bool b = .bool true ∧ Same w w'')) := fun hf => by
    refine cl (c13 (ht.fr hf fun x => x)) ?_
    rintro _ w7 ⟨rfl, f7⟩
    exact ⟨_, rfl, rfl, hf.trans f7 fun _ _ x => x⟩
  rcases h1 with ⟨h, rfl, _⟩ | ⟨h, hb, rfl, _⟩ | ⟨h, hg, b, m, S, rfl, U⟩
  · refine ⟨_, _, rfl, cl (r16 hn0 hn1 (Rd.same hr f1) hG) ?_⟩
    rintro v2 w2 (⟨_, rfl, f2⟩ | ⟨h', _⟩ | ⟨h', _⟩)
    · refine ⟨_, _, rfl, ?_⟩
      have e3 : ((3 : Int) != 3) = false := rfl
      simp only [e3, br_false, Option.isNone_none, beq_self_eq_true, Bool.not_true]
      unfold F5_1
      simp only [rdP_mk, Option.isNone_none, br_true]
      refine (hbad (f1.trans f2 fun _ _ x => x)).mono ?_
      rintro e w' ⟨b, he, h⟩
      refine ⟨b, he, fun _g => ?_⟩
      simp only [rdB_mk]
      exact h
    · exfalso; omega
    · exfalso; omega
  · refine ⟨_, _, rfl, cl (r16 hn0 hn1 (Rd.same hr f1) hG) ?_⟩
    rintro v2 w2 (⟨h', _⟩ | ⟨_, _, rfl, f2⟩ | ⟨_, hg, _⟩)
    · exfalso; omega
    · refine ⟨_, _, rfl, ?_⟩
      have e3 : ((30 : Int) != 30) = false := rfl
      simp only [e3, br_false, Option.isNone_none, beq_self_eq_true, Bool.not_true]
      unfold F5_1
      simp only [rdP_mk, Option.isNone_none, br_true]
      refine (hbad (f1.trans f2 fun _ _ x => x)).mono ?_
      rintro e w' ⟨b, he, h⟩
      refine ⟨b, he, fun _g => ?_⟩
      simp only [rdB_mk]
      exact h
    · obtain ⟨p, hp, h⟩ := hb
      exact absurd h (hg p hp)
  · refine ⟨_, _, rfl, cl (r16 hn0 hn1 (Rd.same hr f1) hG) ?_⟩
    rintro v2 w2 (⟨h', _⟩ | ⟨_, ⟨p, hp, hbd⟩, _⟩ | ⟨_, _, rb, ra, S', rfl, R, hS', f2⟩)
    · exfalso; omega
    · exact absurd hbd (hg p hp)
    · refine ⟨_, _, rfl, ?_⟩
      have e3 : ((0 : Int) != 0) = false := rfl
      simp only [e3, br_false, Option.isNone_some, beq_self_eq_true, Bool.not_true]
      unfold F5_1
      simp only [rdP_mk, Option.isNone_some, br_false]
      have g2 : Same w w2 := f1.trans f2 fun _ _ x => x
      have hSS : S' = S := rising_ext R.rising U.set.rising fun x => by
        rw [hS' x, U.mem x]
        constructor
        · exact fun h => h.2
        · rintro ⟨p, hp, h1, h2⟩
          have := hG p hp
          exact ⟨by omega, p, hp, h1, h2⟩
      subst hSS
      refine cl (c17 (ht.fr g2 fun x => x) (U.set.same f2) R) ?_
      rintro _ w3 ⟨rfl, f3⟩
      refine ⟨_, rfl, ?_⟩
      simp only [br_true]
      refine (hbad (g2.trans f3 fun _ _ x => x)).mono ?_
      rintro e w' ⟨b, he, h⟩
      refine ⟨b, he, fun _g => ?_⟩
      simp only [rdB_mk]
      exact h
end
end Go.Proofs.YtjcigidbnpmeaaaDoor
