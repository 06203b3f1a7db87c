/- Own text: part of the shallow reading of the code and of the contracts that are proved over it. -/
import Derived.Test.YtilenpnpnbdndaaGreatDoorSpV4
namespace Go.Proofs.YtilenpnpnbdndaaGreatDoor
open Go Go.Sh
set_option maxRecDepth 100000
set_option maxHeartbeats 2000000
attribute [local instance] Esc.none
theorem D48_ids : D48.map (·.1) = List.range 71 := by rw [D48_eq]; rfl
theorem D48_low : ∀ d ∈ D48,∀ j,Nat.testBit d.2.1 j = true -> j < d.1 /\ ∃ e ∈ D48,e.1 = j := by
  have h : ∀ d ∈ D48,d.2.1 < 2 ^ d.1 /\ d.1 < 71 := by rw [D48_eq]; decide +kernel
  intro d hd j hj
  obtain ⟨h1,h2⟩ := h d hd
  have hlt : j < d.1 := by
    rcases Nat.lt_or_ge j d.1 with h | h
    · exact h
    · rw [Nat.testBit_lt_two_pow (Nat.lt_of_lt_of_le h1 (Nat.pow_le_pow_right (by omega) h))] at hj
      cases hj
  refine ⟨hlt,?_⟩
  have : j ∈ D48.map (·.1) := by rw [D48_ids]; exact List.mem_range.2 (by omega)
  obtain ⟨e,he,h⟩ := List.mem_map.1 this
  exact ⟨e,he,h⟩
def fin48 (L : Nat) : Bool := (List.range 69).all fun i => Nat.testBit L i
theorem ops48_code : getAt F48_code [0,1,1] = .region 2 ops48 true := by kernel_rfl
theorem ops48_ok : okOps Tryz.prog Tryz.f48.ntmps ops48 = true := by kernel_rfl
theorem ops48_okD : okD Tryz.prog ops48 = true := by kernel_rfl
theorem ops48_beside : besideStore Tryz.prog ops48.toList = true := by kernel_rfl
theorem ops48_size : ops48.size = 71 := by kernel_rfl
theorem end48 (t : Tm) (w wr : World) (K : Tm -> World -> Prop) : vcT Tryz.prog ops48.toList wr ms48 D48 K 2 (2 ^ 69 - 1) t w = stepAt Tryz.prog ops48.toList wr ms48 69 t w (fun t w => stepAt Tryz.prog ops48.toList wr ms48 70 t w K) := by
  unfold ms48 D48
  kernel_rfl
theorem reach48 {L : Nat} (h : Dcl D48 L) {S : Nat} (hS : ∀ j,Nat.testBit S j = true -> Nat.testBit L j = true) (hr : ∀ i < 69,Nat.testBit (reach D48 S 5) i = true) : fin48 L = true :=
  List.all_eq_true.2 fun i hi => reach_sub h 5 S hS i (hr i (List.mem_range.1 hi))
section
variable {W w wr : World} {M : List HP} {bx : Nat} {q1 q2 x3 : Option Addr} {c3 : Nat} {L : Nat} {t : Tm}
def J48 (W : World) (M : List HP) (bx : Nat) (q1 q2 x3 : Option Addr) (c3 : Nat) (L : Nat) (t : Tm) (w : World) : Prop := (∀ k,Nat.testBit L k = true -> k < 69) /\ ∃ bb,Jb W M bx q1 q2 x3 c3 bb L t w
theorem low_step {i : Nat} (hi : i < 69) (h : ∀ k,Nat.testBit L k = true -> k < 69) : ∀ k,Nat.testBit (L ||| 2 ^ i) k = true -> k < 69 := by
  intro k hk
  rw [testBit_or_pow,Bool.or_eq_true,decide_eq_true_eq] at hk
  rcases hk with hk | hk
  · exact h k hk
  · omega
theorem step48 (hld : ∀ K : Option Addr -> Option Addr -> Prop,K q1 q2 -> ldP ((Addr.mk bx 0 none).add 0) wr fun p => ldP ((Addr.mk bx 0 none).add 1) wr fun q => K p q)
    (hpr : ∀ w',w'.heap[bx]? = some (.cells #[.pointer q1,.pointer q2] 82 (0,0)) -> Pres wr w') {d : Nat × Nat × Bool} (hdc : Dcl D48 L) (hj : J48 W M bx q1 q2 x3 c3 L t w) (hf : fin48 L = false) (hd : d ∈ D48) (hr : readyB L d = true) :
    stepAt Tryz.prog ops48.toList wr ms48 d.1 t w (J48 W M bx q1 q2 x3 c3 (L ||| 2 ^ d.1)) := by
  obtain ⟨hlow,bb,hj⟩ := hj
  have hd' := hd
  rw [D48_eq] at hd
  have h51 : Nat.testBit L 45 = false -> Nat.testBit L 51 = false := by
    intro h
    cases hb : Nat.testBit L 51 with
    | false => rfl
    | true =>
      have := hdc (51,1161084278931456,false) (by rw [D48_eq]; decide +kernel) hb 45 rfl
      rw [h] at this
      cases this
  cases hd with
  | head => exact g0 hj hr hld fun bb t' w' h' => ⟨low_step (show (0 : Nat) < 69 by decide) hlow,bb,h'⟩
  | tail _ hd =>
    cases hd with
    | head => exact g1 hj hr fun bb t' w' h' => ⟨low_step (show (1 : Nat) < 69 by decide) hlow,bb,h'⟩
    | tail _ hd =>
      cases hd with
      | head => exact g2 hj hr hpr fun bb t' w' h' => ⟨low_step (show (2 : Nat) < 69 by decide) hlow,bb,h'⟩
      | tail _ hd =>
        cases hd with
        | head => exact g3 hj hr fun bb t' w' h' => ⟨low_step (show (3 : Nat) < 69 by decide) hlow,bb,h'⟩
        | tail _ hd =>
          cases hd with
          | head => exact g4 hj hr hld fun bb t' w' h' => ⟨low_step (show (4 : Nat) < 69 by decide) hlow,bb,h'⟩
          | tail _ hd =>
            cases hd with
            | head => exact g5 hj hr fun bb t' w' h' => ⟨low_step (show (5 : Nat) < 69 by decide) hlow,bb,h'⟩
            | tail _ hd =>
              cases hd with
              | head => exact g6 hj hr hld fun bb t' w' h' => ⟨low_step (show (6 : Nat) < 69 by decide) hlow,bb,h'⟩
              | tail _ hd =>
                cases hd with
                | head => exact g7 hj hr fun bb t' w' h' => ⟨low_step (show (7 : Nat) < 69 by decide) hlow,bb,h'⟩
                | tail _ hd =>
                  cases hd with
                  | head => exact g8 hj hr hld fun bb t' w' h' => ⟨low_step (show (8 : Nat) < 69 by decide) hlow,bb,h'⟩
                  | tail _ hd =>
                    cases hd with
                    | head => exact g9 hj hr fun bb t' w' h' => ⟨low_step (show (9 : Nat) < 69 by decide) hlow,bb,h'⟩
                    | tail _ hd =>
                      cases hd with
                      | head => exact g10 hj hr hld fun bb t' w' h' => ⟨low_step (show (10 : Nat) < 69 by decide) hlow,bb,h'⟩
                      | tail _ hd =>
                        cases hd with
                        | head => exact g11 hj hr fun bb t' w' h' => ⟨low_step (show (11 : Nat) < 69 by decide) hlow,bb,h'⟩
                        | tail _ hd =>
                          cases hd with
                          | head => exact g12 hj hr hld fun bb t' w' h' => ⟨low_step (show (12 : Nat) < 69 by decide) hlow,bb,h'⟩
                          | tail _ hd =>
                            cases hd with
                            | head => exact g13 hj hr fun bb t' w' h' => ⟨low_step (show (13 : Nat) < 69 by decide) hlow,bb,h'⟩
                            | tail _ hd =>
                              cases hd with
                              | head => exact g14 hj hr hpr fun bb t' w' h' => ⟨low_step (show (14 : Nat) < 69 by decide) hlow,bb,h'⟩
                              | tail _ hd =>
                                cases hd with
                                | head => exact g15 hj hr fun bb t' w' h' => ⟨low_step (show (15 : Nat) < 69 by decide) hlow,bb,h'⟩
                                | tail _ hd =>
                                  cases hd with
                                  | head => exact g16 hj hr hld fun bb t' w' h' => ⟨low_step (show (16 : Nat) < 69 by decide) hlow,bb,h'⟩
                                  | tail _ hd =>
                                    cases hd with
                                    | head => exact g17 hj hr fun bb t' w' h' => ⟨low_step (show (17 : Nat) < 69 by decide) hlow,bb,h'⟩
                                    | tail _ hd =>
                                      cases hd with
                                      | head => exact g18 hj hr hpr fun bb t' w' h' => ⟨low_step (show (18 : Nat) < 69 by decide) hlow,bb,h'⟩
                                      | tail _ hd =>
                                        cases hd with
                                        | head => exact g19 hj hr fun bb t' w' h' => ⟨low_step (show (19 : Nat) < 69 by decide) hlow,bb,h'⟩
                                        | tail _ hd =>
                                          cases hd with
                                          | head => exact g20 hj hr hld fun bb t' w' h' => ⟨low_step (show (20 : Nat) < 69 by decide) hlow,bb,h'⟩
                                          | tail _ hd =>
                                            cases hd with
                                            | head => exact g21 hj hr fun bb t' w' h' => ⟨low_step (show (21 : Nat) < 69 by decide) hlow,bb,h'⟩
                                            | tail _ hd =>
                                              cases hd with
                                              | head => exact g22 hj hr hpr fun bb t' w' h' => ⟨low_step (show (22 : Nat) < 69 by decide) hlow,bb,h'⟩
                                              | tail _ hd =>
                                                cases hd with
                                                | head => exact g23 hj hr fun bb t' w' h' => ⟨low_step (show (23 : Nat) < 69 by decide) hlow,bb,h'⟩
                                                | tail _ hd =>
                                                  cases hd with
                                                  | head => exact g24 hj hr hld fun bb t' w' h' => ⟨low_step (show (24 : Nat) < 69 by decide) hlow,bb,h'⟩
                                                  | tail _ hd =>
                                                    cases hd with
                                                    | head => exact g25 hj hr fun bb t' w' h' => ⟨low_step (show (25 : Nat) < 69 by decide) hlow,bb,h'⟩
                                                    | tail _ hd =>
                                                      cases hd with
                                                      | head => exact g26 hj hr hld fun bb t' w' h' => ⟨low_step (show (26 : Nat) < 69 by decide) hlow,bb,h'⟩
                                                      | tail _ hd =>
                                                        cases hd with
                                                        | head => exact g27 hj hr fun bb t' w' h' => ⟨low_step (show (27 : Nat) < 69 by decide) hlow,bb,h'⟩
                                                        | tail _ hd =>
                                                          cases hd with
                                                          | head => exact g28 hj hr hpr fun bb t' w' h' => ⟨low_step (show (28 : Nat) < 69 by decide) hlow,bb,h'⟩
                                                          | tail _ hd =>
                                                            cases hd with
                                                            | head => exact g29 hj hr fun bb t' w' h' => ⟨low_step (show (29 : Nat) < 69 by decide) hlow,bb,h'⟩
                                                            | tail _ hd =>
                                                              cases hd with
                                                              | head => exact g30 hj hr hld fun bb t' w' h' => ⟨low_step (show (30 : Nat) < 69 by decide) hlow,bb,h'⟩
                                                              | tail _ hd =>
                                                                cases hd with
                                                                | head => exact g31 hj hr fun bb t' w' h' => ⟨low_step (show (31 : Nat) < 69 by decide) hlow,bb,h'⟩
                                                                | tail _ hd =>
                                                                  cases hd with
                                                                  | head => exact g32 hj hr hpr fun bb t' w' h' => ⟨low_step (show (32 : Nat) < 69 by decide) hlow,bb,h'⟩
                                                                  | tail _ hd =>
                                                                    cases hd with
                                                                    | head => exact g33 hj hr fun bb t' w' h' => ⟨low_step (show (33 : Nat) < 69 by decide) hlow,bb,h'⟩
                                                                    | tail _ hd =>
                                                                      cases hd with
                                                                      | head => exact g34 hj hr hld fun bb t' w' h' => ⟨low_step (show (34 : Nat) < 69 by decide) hlow,bb,h'⟩
                                                                      | tail _ hd =>
                                                                        cases hd with
                                                                        | head => exact g35 hj hr fun bb t' w' h' => ⟨low_step (show (35 : Nat) < 69 by decide) hlow,bb,h'⟩
                                                                        | tail _ hd =>
                                                                          cases hd with
                                                                          | head => exact g36 hj hr hpr fun bb t' w' h' => ⟨low_step (show (36 : Nat) < 69 by decide) hlow,bb,h'⟩
                                                                          | tail _ hd =>
                                                                            cases hd with
                                                                            | head => exact g37 hj hr fun bb t' w' h' => ⟨low_step (show (37 : Nat) < 69 by decide) hlow,bb,h'⟩
                                                                            | tail _ hd =>
                                                                              cases hd with
                                                                              | head => exact g38 hj hr fun bb t' w' h' => ⟨low_step (show (38 : Nat) < 69 by decide) hlow,bb,h'⟩
                                                                              | tail _ hd =>
                                                                                cases hd with
                                                                                | head => exact g39 hj hr fun bb t' w' h' => ⟨low_step (show (39 : Nat) < 69 by decide) hlow,bb,h'⟩
                                                                                | tail _ hd =>
                                                                                  cases hd with
                                                                                  | head => exact g40 hj hr fun bb t' w' h' => ⟨low_step (show (40 : Nat) < 69 by decide) hlow,bb,h'⟩
                                                                                  | tail _ hd =>
                                                                                    cases hd with
                                                                                    | head => exact g41 hj hr fun bb t' w' h' => ⟨low_step (show (41 : Nat) < 69 by decide) hlow,bb,h'⟩
                                                                                    | tail _ hd =>
                                                                                      cases hd with
                                                                                      | head => exact g42 hj hr fun bb t' w' h' => ⟨low_step (show (42 : Nat) < 69 by decide) hlow,bb,h'⟩
                                                                                      | tail _ hd =>
                                                                                        cases hd with
                                                                                        | head => exact g43 hj hr fun bb t' w' h' => ⟨low_step (show (43 : Nat) < 69 by decide) hlow,bb,h'⟩
                                                                                        | tail _ hd =>
                                                                                          cases hd with
                                                                                          | head => exact g44 hj hr fun bb t' w' h' => ⟨low_step (show (44 : Nat) < 69 by decide) hlow,bb,h'⟩
                                                                                          | tail _ hd =>
                                                                                            cases hd with
                                                                                            | head => exact g45 hj hr hpr (h51 (ready_new hr)) fun bb t' w' h' => ⟨low_step (show (45 : Nat) < 69 by decide) hlow,bb,h'⟩
                                                                                            | tail _ hd =>
                                                                                              cases hd with
                                                                                              | head => exact g46 hj hr hld fun bb t' w' h' => ⟨low_step (show (46 : Nat) < 69 by decide) hlow,bb,h'⟩
                                                                                              | tail _ hd =>
                                                                                                cases hd with
                                                                                                | head => exact g47 hj hr fun bb t' w' h' => ⟨low_step (show (47 : Nat) < 69 by decide) hlow,bb,h'⟩
                                                                                                | tail _ hd =>
                                                                                                  cases hd with
                                                                                                  | head => exact g48 hj hr hld fun bb t' w' h' => ⟨low_step (show (48 : Nat) < 69 by decide) hlow,bb,h'⟩
                                                                                                  | tail _ hd =>
                                                                                                    cases hd with
                                                                                                    | head => exact g49 hj hr fun bb t' w' h' => ⟨low_step (show (49 : Nat) < 69 by decide) hlow,bb,h'⟩
                                                                                                    | tail _ hd =>
                                                                                                      cases hd with
                                                                                                      | head => exact g50 hj hr hpr fun bb t' w' h' => ⟨low_step (show (50 : Nat) < 69 by decide) hlow,bb,h'⟩
                                                                                                      | tail _ hd =>
                                                                                                        cases hd with
                                                                                                        | head => exact g51 hj hr hpr fun bb t' w' h' => ⟨low_step (show (51 : Nat) < 69 by decide) hlow,bb,h'⟩
                                                                                                        | tail _ hd =>
                                                                                                          cases hd with
                                                                                                          | head => exact g52 hj hr fun bb t' w' h' => ⟨low_step (show (52 : Nat) < 69 by decide) hlow,bb,h'⟩
                                                                                                          | tail _ hd =>
                                                                                                            cases hd with
                                                                                                            | head => exact g53 hj hr hld fun bb t' w' h' => ⟨low_step (show (53 : Nat) < 69 by decide) hlow,bb,h'⟩
                                                                                                            | tail _ hd =>
                                                                                                              cases hd with
                                                                                                              | head => exact g54 hj hr fun bb t' w' h' => ⟨low_step (show (54 : Nat) < 69 by decide) hlow,bb,h'⟩
                                                                                                              | tail _ hd =>
                                                                                                                cases hd with
                                                                                                                | head => exact g55 hj hr hld fun bb t' w' h' => ⟨low_step (show (55 : Nat) < 69 by decide) hlow,bb,h'⟩
                                                                                                                | tail _ hd =>
                                                                                                                  cases hd with
                                                                                                                  | head => exact g56 hj hr fun bb t' w' h' => ⟨low_step (show (56 : Nat) < 69 by decide) hlow,bb,h'⟩
                                                                                                                  | tail _ hd =>
                                                                                                                    cases hd with
                                                                                                                    | head => exact g57 hj hr hld fun bb t' w' h' => ⟨low_step (show (57 : Nat) < 69 by decide) hlow,bb,h'⟩
                                                                                                                    | tail _ hd =>
                                                                                                                      cases hd with
                                                                                                                      | head => exact g58 hj hr fun bb t' w' h' => ⟨low_step (show (58 : Nat) < 69 by decide) hlow,bb,h'⟩
                                                                                                                      | tail _ hd =>
                                                                                                                        cases hd with
                                                                                                                        | head => exact g59 hj hr hpr fun bb t' w' h' => ⟨low_step (show (59 : Nat) < 69 by decide) hlow,bb,h'⟩
                                                                                                                        | tail _ hd =>
                                                                                                                          cases hd with
                                                                                                                          | head => exact g60 hj hr fun bb t' w' h' => ⟨low_step (show (60 : Nat) < 69 by decide) hlow,bb,h'⟩
                                                                                                                          | tail _ hd =>
                                                                                                                            cases hd with
                                                                                                                            | head => exact g61 hj hr hld fun bb t' w' h' => ⟨low_step (show (61 : Nat) < 69 by decide) hlow,bb,h'⟩
                                                                                                                            | tail _ hd =>
                                                                                                                              cases hd with
                                                                                                                              | head => exact g62 hj hr fun bb t' w' h' => ⟨low_step (show (62 : Nat) < 69 by decide) hlow,bb,h'⟩
                                                                                                                              | tail _ hd =>
                                                                                                                                cases hd with
                                                                                                                                | head => exact g63 hj hr hpr fun bb t' w' h' => ⟨low_step (show (63 : Nat) < 69 by decide) hlow,bb,h'⟩
                                                                                                                                | tail _ hd =>
                                                                                                                                  cases hd with
                                                                                                                                  | head => exact g64 hj hr fun bb t' w' h' => ⟨low_step (show (64 : Nat) < 69 by decide) hlow,bb,h'⟩
                                                                                                                                  | tail _ hd =>
                                                                                                                                    cases hd with
                                                                                                                                    | head => exact g65 hj hr hld fun bb t' w' h' => ⟨low_step (show (65 : Nat) < 69 by decide) hlow,bb,h'⟩
                                                                                                                                    | tail _ hd =>
                                                                                                                                      cases hd with
                                                                                                                                      | head => exact g66 hj hr fun bb t' w' h' => ⟨low_step (show (66 : Nat) < 69 by decide) hlow,bb,h'⟩
                                                                                                                                      | tail _ hd =>
                                                                                                                                        cases hd with
                                                                                                                                        | head => exact g67 hj hr hpr fun bb t' w' h' => ⟨low_step (show (67 : Nat) < 69 by decide) hlow,bb,h'⟩
                                                                                                                                        | tail _ hd =>
                                                                                                                                          cases hd with
                                                                                                                                          | head => exact g68 hj hr fun bb t' w' h' => ⟨low_step (show (68 : Nat) < 69 by decide) hlow,bb,h'⟩
                                                                                                                                          | tail _ hd =>
                                                                                                                                            cases hd with
                                                                                                                                            | head =>
                                                                                                                                              exfalso
                                                                                                                                              have := reach48 hdc (fun j hj => ready_bit (d := (69,314752086048743391240,false)) hr hj) (by rw [D48_eq]; decide +kernel)
                                                                                                                                              rw [hf] at this
                                                                                                                                              cases this
                                                                                                                                            | tail _ hd =>
                                                                                                                                              cases hd with
                                                                                                                                              | head =>
                                                                                                                                                exfalso
                                                                                                                                                have := reach48 hdc (fun j hj => ready_bit (d := (70,1180591620717411303423,true)) hr hj) (by rw [D48_eq]; decide +kernel)
                                                                                                                                                rw [hf] at this
                                                                                                                                                cases this
                                                                                                                                              | tail _ hd =>
                                                                                                                                                cases hd
end
end Go.Proofs.YtilenpnpnbdndaaGreatDoor
