/-
  A range over a function that stands behind a statement within the first part of a sequence.
-/
import Derived.Test.YtaflmpbeonoilaaShO
namespace Go.Sh
open Go
def vcRG (P : Program) (orc : Orc) (π : Path) (R : Rnd) (c : Code) (Q : Post) (t : Tm) (w : World) : Prop :=
  match c with
  | .seq (.seq a (.block i (.rangeFunc g ps _ _))) T =>
    vc P orc (0 :: 0 :: π) a (fun o t w => match o with
      | .normal => rgf P (ev t g) (fun vs w0 wb Kn Kx => bdv ps.toList vs t fun t => R t w0 wb Kn Kx) w (fun D w' => vc P orc (1 :: π) T (tl Q D) t w')
          (fun c D w' => jmp c i False (vc P orc (1 :: π) T (tl Q D) t w'))
      | _ => False) t w
  | _ => False
section
variable {P : Program} {N : Nat} {t : Tm} {w : World}
theorem vcRG_sound (hm : P.follows .mixedOrders = true) {c0 : Code} {orc : Orc} (ho : OrcOk P N c0 orc) {π : Path} {R : Rnd} {c : Code} (hπ : getAt c0 π = c) (hok : okC P N c = true) {Q : Post} {ρ : Path} (hρ : ρ = 0 :: 1 :: 0 :: π)
    (hR : ∀ g ps as bd, getAt c0 ρ = .rangeFunc g ps as bd → okC P N (.rangeFunc g ps as bd) = true → ∀ t w wb Kn Kx, R t w wb Kn Kx → W P N as (fun o t1 w1 => match o with | .normal => w1 = w ∧ W P N bd (rndPost Kn Kx) t1 wb | _ => False) t w)
    (h : vcRG P orc π R c Q t w) : Wt P N c Q t w := by
  intro a ha
  unfold vcRG at h
  split at h
  · rename_i a0 i g ps as bd T
    have hR := hR g ps as bd (by rw [hρ]; simp [getAt, hπ, child]) (by
      have : okC P N (.seq (.seq a0 (.block i (.rangeFunc g ps as bd))) T) = true := hok
      rw [okC, okC, Bool.and_eq_true, Bool.and_eq_true] at this
      exact this.1.2)
    simp only [okC, Bool.and_eq_true] at hok
    have ha0 := vc_sound hm ho a0 (0 :: 0 :: π) (by simp [getAt, hπ, child]) hok.1.1 _ t w h
    refine wpIn_seq (wpIn_seq (wpIn_mono (ha0 none [] a ha) fun e y w q => ?_))
    cases e with
    | normal =>
      obtain ⟨t, hM, h⟩ := q
      have hT : ∀ D w', vc P orc (1 :: π) T (tl Q D) t w' → T.wpIn (fw none) 0 P (upT N Q) { y with defers := [{ target := .collected D, args := #[] }] } w' := fun D w' hv =>
        wpIn_mono ((vc_sound hm ho T (1 :: π) (by simp [getAt, hπ, child]) hok.2 _ t w' hv) none _ _ ⟨hM.1, rfl, hM.2.2⟩) tl_up
      refine wpIn_block (wp_rgf hM hok.1.2.1.1 hR h ?_ ?_)
      · exact fun D w' hv => hT D w' hv
      · intro c D w' hv
        unfold jmp at hv
        split at hv
        · exact hv.elim
        · rename_i j
          split at hv
          · rename_i hj
            rw [nbeq] at hj
            subst hj
            refine wpIn_exit ?_
            show if j = j then _ else _
            rw [if_pos rfl]
            exact hT D w' hv
          · exact hv.elim
        · exact hv.elim
    | exit i => obtain ⟨_, _, q⟩ := q; exact q.elim
    | ret => obtain ⟨_, _, q⟩ := q; exact q.elim
    | goto l => exact q.elim
    | panic c => exact q.elim
    | outgrown => exact q.elim
  · exact h.elim
end
end Go.Sh
