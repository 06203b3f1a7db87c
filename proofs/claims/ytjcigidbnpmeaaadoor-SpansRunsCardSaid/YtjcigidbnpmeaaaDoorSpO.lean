/- Own text: part of the shallow reading of the code and of the contracts that are proved over it. -/
import Derived.Test.YtjcigidbnpmeaaaDoorSpN
namespace Go.Proofs.YtjcigidbnpmeaaaDoor
open Go Go.Sh Go.Sp

/-! the law SpansBack -/
theorem gapA_inv (S : List Nat) (h : S.Pairwise (· < ·)) : (∀ p ∈ gapA S, p.1 ∈ S ∧ p.2 ∈ S ∧ p.1 ≤ p.2) ∧ (∀ x, x ∈ S ↔ inG (gapA S) x) ∧ (gapA S).length ≤ S.length := by
  revert h
  refine snocInd (P := fun S => S.Pairwise (· < ·) → (∀ p ∈ gapA S, p.1 ∈ S ∧ p.2 ∈ S ∧ p.1 ≤ p.2) ∧ (∀ x, x ∈ S ↔ inG (gapA S) x) ∧ (gapA S).length ≤ S.length) (fun _ => by simp [gapA, inG]) ?_ S
  intro r d ih h
  obtain ⟨i1, i2, i3⟩ := ih (List.pairwise_append.1 h).1
  have hlt : ∀ e ∈ r, e < d := fun e he => (List.pairwise_append.1 h).2.2 e he d (by simp)
  rw [gapA_snoc]
  rcases List.eq_nil_or_concat (gapA r) with hnil | ⟨L, p, hL⟩
  · rw [hnil] at i1 i2 i3 ⊢
    have hr : r = [] := by
      cases r with
      | nil => rfl
      | cons x r => exact absurd ((i2 x).1 (by simp)) (by simp [inG])
    subst hr
    refine ⟨by simp [gstep], fun x => ?_, by simp [gstep]⟩
    simp [gstep, inG]; omega
  · rw [List.concat_eq_append] at hL
    rw [hL] at i1 i2 i3 ⊢
    rw [gstep_snoc]
    obtain ⟨q1, q2, q3⟩ := i1 p (by simp)
    have q4 := hlt _ q2
    by_cases hp : p.2 + 1 = d
    · rw [if_pos hp]
      refine ⟨fun q hq => ?_, fun x => ?_, by simp at i3 ⊢; omega⟩
      · rcases List.mem_append.1 hq with hq | hq
        · obtain ⟨a1, a2, a3⟩ := i1 q (by simp [hq])
          exact ⟨by simp [a1], by simp [a2], a3⟩
        · simp at hq; subst hq
          exact ⟨by simp [q1], by simp, by simp; omega⟩
      · rw [List.mem_append, i2 x, List.mem_singleton]
        constructor
        · rintro (⟨q, hq, hx⟩ | rfl)
          · rcases List.mem_append.1 hq with hq | hq
            · exact ⟨q, by simp [hq], hx⟩
            · simp at hq; subst hq
              exact ⟨(q.1, d), by simp, hx.1, by simp; omega⟩
          · exact ⟨(p.1, x), by simp, by simp; omega, Nat.le_refl _⟩
        · rintro ⟨q, hq, hx⟩
          rcases List.mem_append.1 hq with hq | hq
          · exact .inl ⟨q, by simp [hq], hx⟩
          · simp at hq; subst hq
            simp only at hx
            by_cases hxd : x = d
            · exact .inr hxd
            · exact .inl ⟨p, by simp, hx.1, by omega⟩
    · rw [if_neg hp]
      refine ⟨fun q hq => ?_, fun x => ?_, by simp at i3 ⊢; omega⟩
      · rcases List.mem_append.1 hq with hq | hq
        · obtain ⟨a1, a2, a3⟩ := i1 q hq
          exact ⟨by simp [a1], by simp [a2], a3⟩
        · simp at hq; subst hq
          exact ⟨by simp, by simp, Nat.le_refl _⟩
      · rw [List.mem_append, i2 x, List.mem_singleton]
        constructor
        · rintro (⟨q, hq, hx⟩ | rfl)
          · exact ⟨q, by simp at hq ⊢; rcases hq with hq | hq <;> simp [hq], hx⟩
          · exact ⟨(x, x), by simp, Nat.le_refl _, Nat.le_refl _⟩
        · rintro ⟨q, hq, hx⟩
          rcases List.mem_append.1 hq with hq | hq
          · exact .inl ⟨q, hq, hx⟩
          · simp at hq; subst hq
            simp only at hx
            exact .inr (by omega)
theorem nodup_sub_len {α : Type} [DecidableEq α] : ∀ (l l' : List α), l.Nodup → (∀ x ∈ l, x ∈ l') → l.length ≤ l'.length
  | [], _, _, _ => Nat.zero_le _
  | a :: r, l', hn, hs => by
    rw [List.nodup_cons] at hn
    have ha := hs a (by simp)
    have := nodup_sub_len r (l'.erase a) hn.2 fun x hx => (List.mem_erase_of_ne (fun e => hn.1 (by rw [← e]; exact hx))).2 (hs x (by simp [hx]))
    rw [List.length_erase_of_mem ha] at this
    have := List.length_pos_of_mem ha
    simp; omega
theorem In.len {xs : List Int} {k : Nat} {S : List Nat} (h : In xs k S) : S.length ≤ xs.length := by
  have := nodup_sub_len (S.map fun (d : Nat) => ((k + d : Nat) : Int)) xs ?_ ?_
  · simpa using this
  · unfold List.Nodup
    rw [List.pairwise_map]
    exact h.rising.imp fun hab => by omega
  · intro x hx
    obtain ⟨d, hd, rfl⟩ := List.mem_map.1 hx
    exact ((h.mem (k + d)).1 (.inr ⟨d, hd, rfl⟩)).2
section
variable {n : Int} {X : List Int} {a : Option Addr} {cc : Nat}
theorem c4 {w : World} (ht : TB w) (hn0 : 0 ≤ n) (hn1 : n < 4294967296) (hX : ∀ x ∈ X, 0 ≤ x ∧ x ≤ 65535) (hr : Rd w a (X.map (Value.int .u16))) :
    Calls Tryd.prog 4 #[.int .u32 n, .slice a X.length cc] w (rt fun v w' => v = .bool true ∧ Same w w') := by
  refine F4_ok ?_
  unfold F4
  simp only [rdC_mk, rdI_mk]
  refine cl (c9 ht hn0 hn1 hX hr) ?_
  rintro _ w1 ⟨b, m, k, S, rfl, F⟩
  refine ⟨_, _, rfl, ?_⟩
  simp only [Bool.not_true, br_false]
  refine clr (c10 F.set) ⟨_, rfl, ?_⟩
  refine cl (c15 (ht.fr F.fr fun x => x) F.set 4096) ?_
  rintro _ w2 ⟨a2, c2, rfl, o2, f2⟩
  refine ⟨_, _, _, rfl, ?_⟩
  have g2 : Same w w2 := F.fr.trans f2 fun _ _ x => x
  have s2 := F.set.same f2
  obtain ⟨i1, i2, i3⟩ := gapA_inv S F.set.rising
  have hlen : S.length ≤ 300 := by have := F.inn.len; rw [List.length_take] at this; omega
  have hgs : gapS S 4096 = gapA S := List.take_of_length_le (by simp; omega)
  rw [hgs] at o2 ⊢
  refine cl (c14 (cc := c2) F.set.c0 F.set.c1 o2.rd (fun p hp => ?_)) ?_
  · have h1 := i1 p hp
    have h2 := F.set.rng _ h1.1
    have h3 := F.set.rng _ h1.2.1
    omega
  rintro v w3 (⟨h, _⟩ | ⟨_, ⟨p, hp, hbad⟩, _⟩ | ⟨_, _, b3, m3, S3, rfl, U⟩)
  · exfalso; omega
  · exfalso
    have h1 := i1 p hp
    have h2 := F.set.rng _ h1.1
    unfold badG at hbad
    omega
  refine ⟨_, _, rfl, ?_⟩
  have hS : S3 = S := rising_ext U.set.rising F.set.rising fun x => by rw [U.mem, i2]
  subst hS
  have g3 : Same w w3 := g2.trans U.fr fun _ _ x => x
  have s3 := s2.same U.fr
  have e0 : ((0 : Int) == 0) = true := rfl
  simp only [e0, Option.isNone_some, Bool.not_false, br_true]
  refine clr (c10 U.set) ⟨_, rfl, clr (c10 s3) ⟨_, rfl, ?_⟩⟩
  simp only [beq_self_eq_true, br_true]
  refine cl (c12 (ht.fr g3 fun x => x) U.set) ?_
  rintro _ w4 ⟨a4, c4, rfl, o4, f4⟩
  refine ⟨_, _, _, rfl, ?_⟩
  have g4 : Same w w4 := g3.trans f4 fun _ _ x => x
  refine cl (c12 (ht.fr g4 fun x => x) (s3.same f4)) ?_
  rintro _ w5 ⟨a5, c5, rfl, o5, f5⟩
  refine ⟨_, _, _, rfl, ?_⟩
  have g5 : Same w w5 := g4.trans f5 fun _ _ x => x
  have r4 := Rd.same o4.rd f5
  have r5 := o5.rd
  rw [numV_nums] at r4 r5
  have := c11 (d1 := c4) (d2 := c5) r4 r5 (by rw [nums_length]; omega)
  rw [nums_length] at this
  refine cl this ?_
  rintro _ w6 ⟨rfl, f6⟩
  refine ⟨_, rfl, ?_⟩
  have g6 : Same w w6 := g5.trans f6 fun _ _ x => x
  simp only [decide_true, br_true]
  refine cl (c13 (ht.fr g6 fun x => x)) ?_
  rintro _ w7 ⟨rfl, f7⟩
  exact ⟨_, rfl, rfl, g6.trans f7 fun _ _ x => x⟩
end
end Go.Proofs.YtjcigidbnpmeaaaDoor
