/- Own text: part of the shallow reading of the code and of the contracts that are proved over it. -/
import Derived.Test.YtilenpnpnbdndaaGreatDoorSpV4
import Derived.Test.YtilenpnpnbdndaaGreatDoorShDf
import Derived.KernelRfl
import Derived.Test.YtilenpnpnbdndaaGreatDoorShAn
namespace Go.Proofs.YtilenpnpnbdndaaGreatDoor
open Go Go.Sh
set_option maxRecDepth 100000
set_option maxHeartbeats 2000000
attribute [local instance] Esc.none
theorem D48_ids : D48.map (·.1) = List.range 71 := by rw [D48_eq]; rfl
theorem D48_low : ∀ d ∈ D48,∀ j,Nat.testBit d.2.1 j = true -> j < d.1 /\ ∃ e ∈ D48,e.1 = j := by
 have h : ∀ d ∈ D48,d.2.1 < 2 ^ d.1 /\ d.1 < 71 := by rw [D48_eq]; decide +kernel
 intro d hd j hj
 obtain ⟨h1,h2⟩ := h d hd
 have hlt : j < d.1 := by
  rcases Nat.lt_or_ge j d.1 with h | h
  ·exact h
  ·rw [Nat.testBit_lt_two_pow (Nat.lt_of_lt_of_le h1 (Nat.pow_le_pow_right (by omega) h))] at hj
   cases hj
 refine ⟨hlt,?_⟩
 have : j ∈ D48.map (·.1) := by rw [D48_ids]; exact List.mem_range.2 (by omega)
 obtain ⟨e,he,h⟩ := List.mem_map.1 this
 exact ⟨e,he,h⟩
def fin48 (L : Nat) : Bool := (List.range 69).all fun i => Nat.testBit L i
theorem ops48_code : getAt F48_code [0,1,1] = .region 2 ops48 true := by kernel_rfl
theorem ops48_ok : okOps Tryz.prog Tryz.f48.ntmps ops48 = true := by kernel_rfl
theorem ops48_okD : okD Tryz.prog ops48 = true := by kernel_rfl
theorem ops48_beside : besideStore Tryz.prog ops48.toList = true := by kernel_rfl
theorem ops48_size : ops48.size = 71 := by kernel_rfl
theorem end48 (t : Tm) (w wr : World) (K : Tm -> World -> Prop) : vcT Tryz.prog ops48.toList wr ms48 D48 K 2 (2 ^ 69 - 1) t w = stepAt Tryz.prog ops48.toList wr ms48 69 t w (fun t w => stepAt Tryz.prog ops48.toList wr ms48 70 t w K) := by
 unfold ms48 D48
 kernel_rfl
theorem reach48 {L : Nat} (h : Dcl D48 L) {S : Nat} (hS : ∀ j,Nat.testBit S j = true -> Nat.testBit L j = true) (hr : ∀ i < 69,Nat.testBit (reach D48 S 5) i = true) : fin48 L = true :=
 List.all_eq_true.2 fun i hi => reach_sub h 5 S hS i (hr i (List.mem_range.1 hi))
section
variable {W w wr : World} {M : List HP} {bx : Nat} {q1 q2 x3 : Option Addr} {c3 : Nat} {L : Nat} {t : Tm}
def J48 (W : World) (M : List HP) (bx : Nat) (q1 q2 x3 : Option Addr) (c3 : Nat) (L : Nat) (t : Tm) (w : World) : Prop := (∀ k,Nat.testBit L k = true -> k < 69) /\ ∃ bb,Jb W M bx q1 q2 x3 c3 bb L t w
theorem low_step {i : Nat} (hi : i < 69) (h : ∀ k,Nat.testBit L k = true -> k < 69) : ∀ k,Nat.testBit (L ||| 2 ^ i) k = true -> k < 69 := by
 intro k hk
 rw [testBit_or_pow,Bool.or_eq_true,decide_eq_true_eq] at hk
 rcases hk with hk | hk
 ·exact h k hk
 ·omega
theorem step48 (hld : ∀ K : Option Addr -> Option Addr -> Prop,K q1 q2 -> ldP ((Addr.mk bx 0 none).add 0) wr fun p => ldP ((Addr.mk bx 0 none).add 1) wr fun q => K p q)
  (hpr : ∀ w',w'.heap[bx]? = some (.cells #[.pointer q1,.pointer q2] 82 (0,0)) -> Pres wr w') {d : Nat × Nat × Bool} (hdc : Dcl D48 L) (hj : J48 W M bx q1 q2 x3 c3 L t w) (hf : fin48 L = false) (hd : d ∈ D48) (hr : readyB L d = true) :
  stepAt Tryz.prog ops48.toList wr ms48 d.1 t w (J48 W M bx q1 q2 x3 c3 (L ||| 2 ^ d.1)) := by
 obtain ⟨hlow,bb,hj⟩ := hj
 have hd' := hd
 rw [D48_eq] at hd
 have h51 : Nat.testBit L 45 = false -> Nat.testBit L 51 = false := by
  intro h
  cases hb : Nat.testBit L 51 with
  | false => rfl
  | true =>
   have := hdc (51,1161084278931456,false) (by rw [D48_eq]; decide +kernel) hb 45 rfl
   rw [h] at this
   cases this
 rcases List.mem_cons.1 hd with rfl | hd
 ·exact g0 hj hr hld fun bb t' w' h' => ⟨low_step (show (0 : Nat) < 69 by decide) hlow,bb,h'⟩
 rcases List.mem_cons.1 hd with rfl | hd
 ·exact g1 hj hr fun bb t' w' h' => ⟨low_step (show (1 : Nat) < 69 by decide) hlow,bb,h'⟩
 rcases List.mem_cons.1 hd with rfl | hd
 ·exact g2 hj hr hpr fun bb t' w' h' => ⟨low_step (show (2 : Nat) < 69 by decide) hlow,bb,h'⟩
 rcases List.mem_cons.1 hd with rfl | hd
 ·exact g3 hj hr fun bb t' w' h' => ⟨low_step (show (3 : Nat) < 69 by decide) hlow,bb,h'⟩
 rcases List.mem_cons.1 hd with rfl | hd
 ·exact g4 hj hr hld fun bb t' w' h' => ⟨low_step (show (4 : Nat) < 69 by decide) hlow,bb,h'⟩
 rcases List.mem_cons.1 hd with rfl | hd
 ·exact g5 hj hr fun bb t' w' h' => ⟨low_step (show (5 : Nat) < 69 by decide) hlow,bb,h'⟩
 rcases List.mem_cons.1 hd with rfl | hd
 ·exact g6 hj hr hld fun bb t' w' h' => ⟨low_step (show (6 : Nat) < 69 by decide) hlow,bb,h'⟩
 rcases List.mem_cons.1 hd with rfl | hd
 ·exact g7 hj hr fun bb t' w' h' => ⟨low_step (show (7 : Nat) < 69 by decide) hlow,bb,h'⟩
 rcases List.mem_cons.1 hd with rfl | hd
 ·exact g8 hj hr hld fun bb t' w' h' => ⟨low_step (show (8 : Nat) < 69 by decide) hlow,bb,h'⟩
 rcases List.mem_cons.1 hd with rfl | hd
 ·exact g9 hj hr fun bb t' w' h' => ⟨low_step (show (9 : Nat) < 69 by decide) hlow,bb,h'⟩
 rcases List.mem_cons.1 hd with rfl | hd
 ·exact g10 hj hr hld fun bb t' w' h' => ⟨low_step (show (10 : Nat) < 69 by decide) hlow,bb,h'⟩
 rcases List.mem_cons.1 hd with rfl | hd
 ·exact g11 hj hr fun bb t' w' h' => ⟨low_step (show (11 : Nat) < 69 by decide) hlow,bb,h'⟩
 rcases List.mem_cons.1 hd with rfl | hd
 ·exact g12 hj hr hld fun bb t' w' h' => ⟨low_step (show (12 : Nat) < 69 by decide) hlow,bb,h'⟩
 rcases List.mem_cons.1 hd with rfl | hd
 ·exact g13 hj hr fun bb t' w' h' => ⟨low_step (show (13 : Nat) < 69 by decide) hlow,bb,h'⟩
 rcases List.mem_cons.1 hd with rfl | hd
 ·exact g14 hj hr hpr fun bb t' w' h' => ⟨low_step (show (14 : Nat) < 69 by decide) hlow,bb,h'⟩
 rcases List.mem_cons.1 hd with rfl | hd
 ·exact g15 hj hr fun bb t' w' h' => ⟨low_step (show (15 : Nat) < 69 by decide) hlow,bb,h'⟩
 rcases List.mem_cons.1 hd with rfl | hd
 ·exact g16 hj hr hld fun bb t' w' h' => ⟨low_step (show (16 : Nat) < 69 by decide) hlow,bb,h'⟩
 rcases List.mem_cons.1 hd with rfl | hd
 ·exact g17 hj hr fun bb t' w' h' => ⟨low_step (show (17 : Nat) < 69 by decide) hlow,bb,h'⟩
 rcases List.mem_cons.1 hd with rfl | hd
 ·exact g18 hj hr hpr fun bb t' w' h' => ⟨low_step (show (18 : Nat) < 69 by decide) hlow,bb,h'⟩
 rcases List.mem_cons.1 hd with rfl | hd
 ·exact g19 hj hr fun bb t' w' h' => ⟨low_step (show (19 : Nat) < 69 by decide) hlow,bb,h'⟩
 rcases List.mem_cons.1 hd with rfl | hd
 ·exact g20 hj hr hld fun bb t' w' h' => ⟨low_step (show (20 : Nat) < 69 by decide) hlow,bb,h'⟩
 rcases List.mem_cons.1 hd with rfl | hd
 ·exact g21 hj hr fun bb t' w' h' => ⟨low_step (show (21 : Nat) < 69 by decide) hlow,bb,h'⟩
 rcases List.mem_cons.1 hd with rfl | hd
 ·exact g22 hj hr hpr fun bb t' w' h' => ⟨low_step (show (22 : Nat) < 69 by decide) hlow,bb,h'⟩
 rcases List.mem_cons.1 hd with rfl | hd
 ·exact g23 hj hr fun bb t' w' h' => ⟨low_step (show (23 : Nat) < 69 by decide) hlow,bb,h'⟩
 rcases List.mem_cons.1 hd with rfl | hd
 ·exact g24 hj hr hld fun bb t' w' h' => ⟨low_step (show (24 : Nat) < 69 by decide) hlow,bb,h'⟩
 rcases List.mem_cons.1 hd with rfl | hd
 ·exact g25 hj hr fun bb t' w' h' => ⟨low_step (show (25 : Nat) < 69 by decide) hlow,bb,h'⟩
 rcases List.mem_cons.1 hd with rfl | hd
 ·exact g26 hj hr hld fun bb t' w' h' => ⟨low_step (show (26 : Nat) < 69 by decide) hlow,bb,h'⟩
 rcases List.mem_cons.1 hd with rfl | hd
 ·exact g27 hj hr fun bb t' w' h' => ⟨low_step (show (27 : Nat) < 69 by decide) hlow,bb,h'⟩
 rcases List.mem_cons.1 hd with rfl | hd
 ·exact g28 hj hr hpr fun bb t' w' h' => ⟨low_step (show (28 : Nat) < 69 by decide) hlow,bb,h'⟩
 rcases List.mem_cons.1 hd with rfl | hd
 ·exact g29 hj hr fun bb t' w' h' => ⟨low_step (show (29 : Nat) < 69 by decide) hlow,bb,h'⟩
 rcases List.mem_cons.1 hd with rfl | hd
 ·exact g30 hj hr hld fun bb t' w' h' => ⟨low_step (show (30 : Nat) < 69 by decide) hlow,bb,h'⟩
 rcases List.mem_cons.1 hd with rfl | hd
 ·exact g31 hj hr fun bb t' w' h' => ⟨low_step (show (31 : Nat) < 69 by decide) hlow,bb,h'⟩
 rcases List.mem_cons.1 hd with rfl | hd
 ·exact g32 hj hr hpr fun bb t' w' h' => ⟨low_step (show (32 : Nat) < 69 by decide) hlow,bb,h'⟩
 rcases List.mem_cons.1 hd with rfl | hd
 ·exact g33 hj hr fun bb t' w' h' => ⟨low_step (show (33 : Nat) < 69 by decide) hlow,bb,h'⟩
 rcases List.mem_cons.1 hd with rfl | hd
 ·exact g34 hj hr hld fun bb t' w' h' => ⟨low_step (show (34 : Nat) < 69 by decide) hlow,bb,h'⟩
 rcases List.mem_cons.1 hd with rfl | hd
 ·exact g35 hj hr fun bb t' w' h' => ⟨low_step (show (35 : Nat) < 69 by decide) hlow,bb,h'⟩
 rcases List.mem_cons.1 hd with rfl | hd
 ·exact g36 hj hr hpr fun bb t' w' h' => ⟨low_step (show (36 : Nat) < 69 by decide) hlow,bb,h'⟩
 rcases List.mem_cons.1 hd with rfl | hd
 ·exact g37 hj hr fun bb t' w' h' => ⟨low_step (show (37 : Nat) < 69 by decide) hlow,bb,h'⟩
 rcases List.mem_cons.1 hd with rfl | hd
 ·exact g38 hj hr fun bb t' w' h' => ⟨low_step (show (38 : Nat) < 69 by decide) hlow,bb,h'⟩
 rcases List.mem_cons.1 hd with rfl | hd
 ·exact g39 hj hr fun bb t' w' h' => ⟨low_step (show (39 : Nat) < 69 by decide) hlow,bb,h'⟩
 rcases List.mem_cons.1 hd with rfl | hd
 ·exact g40 hj hr fun bb t' w' h' => ⟨low_step (show (40 : Nat) < 69 by decide) hlow,bb,h'⟩
 rcases List.mem_cons.1 hd with rfl | hd
 ·exact g41 hj hr fun bb t' w' h' => ⟨low_step (show (41 : Nat) < 69 by decide) hlow,bb,h'⟩
 rcases List.mem_cons.1 hd with rfl | hd
 ·exact g42 hj hr fun bb t' w' h' => ⟨low_step (show (42 : Nat) < 69 by decide) hlow,bb,h'⟩
 rcases List.mem_cons.1 hd with rfl | hd
 ·exact g43 hj hr fun bb t' w' h' => ⟨low_step (show (43 : Nat) < 69 by decide) hlow,bb,h'⟩
 rcases List.mem_cons.1 hd with rfl | hd
 ·exact g44 hj hr fun bb t' w' h' => ⟨low_step (show (44 : Nat) < 69 by decide) hlow,bb,h'⟩
 rcases List.mem_cons.1 hd with rfl | hd
 ·exact g45 hj hr hpr (h51 (ready_new hr)) fun bb t' w' h' => ⟨low_step (show (45 : Nat) < 69 by decide) hlow,bb,h'⟩
 rcases List.mem_cons.1 hd with rfl | hd
 ·exact g46 hj hr hld fun bb t' w' h' => ⟨low_step (show (46 : Nat) < 69 by decide) hlow,bb,h'⟩
 rcases List.mem_cons.1 hd with rfl | hd
 ·exact g47 hj hr fun bb t' w' h' => ⟨low_step (show (47 : Nat) < 69 by decide) hlow,bb,h'⟩
 rcases List.mem_cons.1 hd with rfl | hd
 ·exact g48 hj hr hld fun bb t' w' h' => ⟨low_step (show (48 : Nat) < 69 by decide) hlow,bb,h'⟩
 rcases List.mem_cons.1 hd with rfl | hd
 ·exact g49 hj hr fun bb t' w' h' => ⟨low_step (show (49 : Nat) < 69 by decide) hlow,bb,h'⟩
 rcases List.mem_cons.1 hd with rfl | hd
 ·exact g50 hj hr hpr fun bb t' w' h' => ⟨low_step (show (50 : Nat) < 69 by decide) hlow,bb,h'⟩
 rcases List.mem_cons.1 hd with rfl | hd
 ·exact g51 hj hr hpr fun bb t' w' h' => ⟨low_step (show (51 : Nat) < 69 by decide) hlow,bb,h'⟩
 rcases List.mem_cons.1 hd with rfl | hd
 ·exact g52 hj hr fun bb t' w' h' => ⟨low_step (show (52 : Nat) < 69 by decide) hlow,bb,h'⟩
 rcases List.mem_cons.1 hd with rfl | hd
 ·exact g53 hj hr hld fun bb t' w' h' => ⟨low_step (show (53 : Nat) < 69 by decide) hlow,bb,h'⟩
 rcases List.mem_cons.1 hd with rfl | hd
 ·exact g54 hj hr fun bb t' w' h' => ⟨low_step (show (54 : Nat) < 69 by decide) hlow,bb,h'⟩
 rcases List.mem_cons.1 hd with rfl | hd
 ·exact g55 hj hr hld fun bb t' w' h' => ⟨low_step (show (55 : Nat) < 69 by decide) hlow,bb,h'⟩
 rcases List.mem_cons.1 hd with rfl | hd
 ·exact g56 hj hr fun bb t' w' h' => ⟨low_step (show (56 : Nat) < 69 by decide) hlow,bb,h'⟩
 rcases List.mem_cons.1 hd with rfl | hd
 ·exact g57 hj hr hld fun bb t' w' h' => ⟨low_step (show (57 : Nat) < 69 by decide) hlow,bb,h'⟩
 rcases List.mem_cons.1 hd with rfl | hd
 ·exact g58 hj hr fun bb t' w' h' => ⟨low_step (show (58 : Nat) < 69 by decide) hlow,bb,h'⟩
 rcases List.mem_cons.1 hd with rfl | hd
 ·exact g59 hj hr hpr fun bb t' w' h' => ⟨low_step (show (59 : Nat) < 69 by decide) hlow,bb,h'⟩
 rcases List.mem_cons.1 hd with rfl | hd
 ·exact g60 hj hr fun bb t' w' h' => ⟨low_step (show (60 : Nat) < 69 by decide) hlow,bb,h'⟩
 rcases List.mem_cons.1 hd with rfl | hd
 ·exact g61 hj hr hld fun bb t' w' h' => ⟨low_step (show (61 : Nat) < 69 by decide) hlow,bb,h'⟩
 rcases List.mem_cons.1 hd with rfl | hd
 ·exact g62 hj hr fun bb t' w' h' => ⟨low_step (show (62 : Nat) < 69 by decide) hlow,bb,h'⟩
 rcases List.mem_cons.1 hd with rfl | hd
 ·exact g63 hj hr hpr fun bb t' w' h' => ⟨low_step (show (63 : Nat) < 69 by decide) hlow,bb,h'⟩
 rcases List.mem_cons.1 hd with rfl | hd
 ·exact g64 hj hr fun bb t' w' h' => ⟨low_step (show (64 : Nat) < 69 by decide) hlow,bb,h'⟩
 rcases List.mem_cons.1 hd with rfl | hd
 ·exact g65 hj hr hld fun bb t' w' h' => ⟨low_step (show (65 : Nat) < 69 by decide) hlow,bb,h'⟩
 rcases List.mem_cons.1 hd with rfl | hd
 ·exact g66 hj hr fun bb t' w' h' => ⟨low_step (show (66 : Nat) < 69 by decide) hlow,bb,h'⟩
 rcases List.mem_cons.1 hd with rfl | hd
 ·exact g67 hj hr hpr fun bb t' w' h' => ⟨low_step (show (67 : Nat) < 69 by decide) hlow,bb,h'⟩
 rcases List.mem_cons.1 hd with rfl | hd
 ·exact g68 hj hr fun bb t' w' h' => ⟨low_step (show (68 : Nat) < 69 by decide) hlow,bb,h'⟩
 rcases List.mem_cons.1 hd with rfl | hd
 ·exfalso
  have := reach48 hdc (fun j hj => ready_bit (d := (69,314752086048743391240,false)) hr hj) (by rw [D48_eq]; decide +kernel)
  rw [hf] at this
  cases this
 rcases List.mem_cons.1 hd with rfl | hd
 ·exfalso
  have := reach48 hdc (fun j hj => ready_bit (d := (70,1180591620717411303423,true)) hr hj) (by rw [D48_eq]; decide +kernel)
  rw [hf] at this
  cases this
 cases hd
end
end Go.Proofs.YtilenpnpnbdndaaGreatDoor
namespace Go.Proofs.YtilenpnpnbdndaaGreatDoor
open Go Go.Sh
set_option maxRecDepth 100000
attribute [local instance] Esc.none
section
variable {W w : World} {M : List HP} {bx : Nat} {q1 q2 x3 : Option Addr} {c3 : Nat} {L : Nat} {t : Tm}
theorem left48 : left (2 ^ 69 - 1) D48 = 2 := by unfold left; rw [D48_eq]; decide +kernel
theorem left48_0 : left 0 D48 = 71 := by unfold left; rw [D48_eq]; decide +kernel
theorem nodup48 : (D48.map (·.1)).Nodup := by rw [D48_ids]; exact List.nodup_range
theorem full48 (hlow : ∀ k,Nat.testBit L k = true -> k < 69) (hf : fin48 L = true) : L = 2 ^ 69 - 1 := by
 refine Nat.eq_of_testBit_eq fun j => ?_
 rw [Nat.testBit_two_pow_sub_one]
 by_cases hj : j < 69
 ·rw [decide_eq_true hj]
  exact List.all_eq_true.1 hf j (List.mem_range.2 hj)
 ·rw [decide_eq_false hj]
  cases hb : Nat.testBit L j with
  | false => rfl
  | true => exact absurd (hlow j hb) hj
def vrec (k : Int) (nm : ByteArray) (n : Nat) (x : Option Addr × Nat) : List Value := [.int .i64 k,.string nm,.slice x.1 n x.2]
def rows48 (bb : Nat -> Option Addr × Nat) (x3 : Option Addr) (c3 : Nat) : List Value := vrec 1 ⟨#[111,112,101,110]⟩ 1 (bb 2) ++ vrec 2 ⟨#[115,101,110,100]⟩ 5 (bb 14) ++ vrec 3 ⟨#[114,101,99,101,105,118,101]⟩ 1 (bb 18) ++ vrec 4 ⟨#[115,104,117,116,100,111,119,110]⟩ 1 (bb 22) ++ vrec 5 ⟨#[97,98,111,114,116]⟩ 2 (bb 28) ++ vrec 6 ⟨#[116,105,99,107]⟩ 1 (bb 32) ++ vrec 7 ⟨#[99,108,111,99,107]⟩ 1 (bb 36) ++ vrec 8 ⟨#[100,101,108,105,118,101,114]⟩ 3 (x3,c3) ++ vrec 9 ⟨#[100,114,111,112]⟩ 3 (x3,c3) ++ vrec 10 ⟨#[116,119,105,99,101]⟩ 3 (x3,c3) ++ vrec 11 ⟨#[115,112,111,105,108]⟩ 5 (bb 51) ++ vrec 12 ⟨#[102,111,114,103,101]⟩ 3 (bb 59) ++ vrec 13 ⟨#[100,111,119,110]⟩ 1 (bb 63) ++ vrec 14 ⟨#[117,112]⟩ 1 (bb 67)
theorem emps {A B : HP} {f : Nat -> HP} : ∀ {l : List Nat},(∀ k ∈ l,f k = emp) -> Hs W (A :: B :: M) w -> Hs W (A :: B :: (l.map f ++ M)) w := by
 intro l hl h
 refine h.of_eq ?_
 have : ∀ (l : List Nat),(∀ k ∈ l,f k = emp) -> bigS (l.map f ++ M) = bigS M := by
  intro l
  induction l with
  | nil => intro _; rfl
  | cons k r ih =>
   intro hl
   rw [List.map_cons,hl k (by simp),List.cons_append,emp_intro]
   exact ih fun k hk => hl k (by simp [hk])
 show star A (star B (bigS M)) = star A (star B (bigS (l.map f ++ M)))
 rw [this l hl]
theorem reg48 {Q : Post} (h : Hs W (pt bx (.cells #[.pointer q1,.pointer q2] 82) :: slP 1 1 x3 3 c3 (pkt q1 q2) :: M) w) (h1 : t 1 = .pointer (some ⟨bx,0,none⟩)) (h3 : t 3 = .slice x3 3 c3)
  (hK : ∀ b bb w' t',Hs W (slP 86 3 (some ⟨b,0,none⟩) 14 14 (rows48 bb x3 c3) :: pt bx (.cells #[.pointer q1,.pointer q2] 82) :: slP 1 1 x3 3 c3 (pkt q1 q2) :: (AL.map (Ae q1 q2 bb (2 ^ 69 - 1)) ++ M)) w' -> t' 2 = .slice (some ⟨b,0,none⟩) 14 14 -> Q .normal t' w') :
  Sh.W Tryz.prog Tryz.f48.ntmps (getAt F48_code [0,1,1]) Q t w := by
 rw [ops48_code]
 refine W_draw mixed ops48_ok ops48_okD ?_
 unfold vcDraw
 rw [ops48_beside,ops48_size]
 have hd := h.drew
 refine ⟨Sh.lone w.drew bx (.cells #[.pointer q1,.pointer q2] 82 (0,0)),Pres.lone (hd.at 0 rfl),?_⟩
 show vcT Tryz.prog ops48.toList _ ms48 D48 (Q .normal) 71 0 t w.drew
 refine vcT_inv (J48 W M bx q1 q2 x3 c3) fin48 nodup48 D48_low ?_ ?_ (fun L t w d hdc hj hf hd hr => step48 ?_ ?_ hdc hj hf hd hr) 71 0 t _ left48_0 ?_ ?_
 ·intro L t w _ hall
  refine List.all_eq_true.2 fun i hi => ?_
  have : i ∈ D48.map (·.1) := by rw [D48_ids]; exact List.mem_range.2 (by have := List.mem_range.1 hi; omega)
  obtain ⟨d,hd,rfl⟩ := List.mem_map.1 this
  exact hall d hd
 ·intro L t w hj hf
  obtain ⟨hlow,bb,hj⟩ := hj
  have hL := full48 hlow hf
  subst hL
  rw [left48,end48]
  have hb : ∀ i < 69,Nat.testBit (2 ^ 69 - 1) i = true := fun i hi => by rw [Nat.testBit_two_pow_sub_one,decide_eq_true hi]
  obtain ⟨e14,-⟩ := hj.vals _ (List.mem_of_getElem? (l := VL q1 q2 x3 c3) (i := 3) rfl) (hb 3 (by decide))
  obtain ⟨e26,-⟩ := hj.vals _ (List.mem_of_getElem? (l := VL q1 q2 x3 c3) (i := 15) rfl) (hb 15 (by decide))
  obtain ⟨e30,-⟩ := hj.vals _ (List.mem_of_getElem? (l := VL q1 q2 x3 c3) (i := 19) rfl) (hb 19 (by decide))
  obtain ⟨e34,-⟩ := hj.vals _ (List.mem_of_getElem? (l := VL q1 q2 x3 c3) (i := 23) rfl) (hb 23 (by decide))
  obtain ⟨e40,-⟩ := hj.vals _ (List.mem_of_getElem? (l := VL q1 q2 x3 c3) (i := 29) rfl) (hb 29 (by decide))
  obtain ⟨e44,-⟩ := hj.vals _ (List.mem_of_getElem? (l := VL q1 q2 x3 c3) (i := 33) rfl) (hb 33 (by decide))
  obtain ⟨e48,-⟩ := hj.vals _ (List.mem_of_getElem? (l := VL q1 q2 x3 c3) (i := 37) rfl) (hb 37 (by decide))
  obtain ⟨e50,-⟩ := hj.vals _ (List.mem_of_getElem? (l := VL q1 q2 x3 c3) (i := 39) rfl) (hb 39 (by decide))
  obtain ⟨e52,-⟩ := hj.vals _ (List.mem_of_getElem? (l := VL q1 q2 x3 c3) (i := 41) rfl) (hb 41 (by decide))
  obtain ⟨e54,-⟩ := hj.vals _ (List.mem_of_getElem? (l := VL q1 q2 x3 c3) (i := 43) rfl) (hb 43 (by decide))
  obtain ⟨e63,-⟩ := hj.vals _ (List.mem_of_getElem? (l := VL q1 q2 x3 c3) (i := 52) rfl) (hb 52 (by decide))
  obtain ⟨e71,-⟩ := hj.vals _ (List.mem_of_getElem? (l := VL q1 q2 x3 c3) (i := 60) rfl) (hb 60 (by decide))
  obtain ⟨e75,-⟩ := hj.vals _ (List.mem_of_getElem? (l := VL q1 q2 x3 c3) (i := 64) rfl) (hb 64 (by decide))
  obtain ⟨e79,-⟩ := hj.vals _ (List.mem_of_getElem? (l := VL q1 q2 x3 c3) (i := 68) rfl) (hb 68 (by decide))
  refine st69 e14 e26 e30 e34 e40 e44 e48 e50 e52 e54 e63 e71 e75 e79 ?_
  refine hj.hs.alc fun b w' h' => st70 ?_
  refine hK b bb w' _ (pt_sl h' rfl (show (14 : Nat) <= maxLen by unfold maxLen; omega)) ?_
  rw [upd_eq,upd_eq]
 ·intro K hk
  exact ldP_at (lone_at _ _ _) rfl (ldP_at (lone_at _ _ _) rfl hk)
 ·exact fun w' hw => Pres.lone hw
 ·intro d _ hb
  rw [Nat.zero_testBit] at hb
  cases hb
 ·refine ⟨fun k hk => ?_,fun _ => (none,0),fun v _ hv => ?_,h1,h3,emps (fun k _ => ?_) hd⟩
  ·rw [Nat.zero_testBit] at hk; cases hk
  ·rw [Nat.zero_testBit] at hv; cases hv
  unfold Ae lv
  rw [Nat.zero_testBit]
  rfl
end
end Go.Proofs.YtilenpnpnbdndaaGreatDoor
namespace Go.Proofs.YtilenpnpnbdndaaGreatDoor
open Go Go.Sh
set_option maxRecDepth 100000
section
attribute [local instance] Esc.none
def F48_0C (Kn : Value -> Value -> World -> Prop) : Post := fun o t w => match o with | .normal => Kn (t 1) (t 2) w | .exit _ => False | .ret => False
def F48_0 (Kn : Value -> Value -> World -> Prop) (x0 : Value) (w : World) : Prop :=
 ∃ p1 p2,x0 = (.agg #[(.pointer p1),(.pointer p2)]) /\ (alc (.cells #[(.pointer p1),(.pointer p2)] 82) w fun b3 w4 => Kn (.pointer (some (Addr.mk b3 0 none))) (.slice none 0 0) w4)
def F48_0O (Q : Post) (t : Tm) (w : World) : Prop := F48_0 (fun y1 y2 w => ∀ g,rsh [(1,(.one .adr)),(2,(.one .slc))] (upds g [(1,y1),(2,y2)]) fun t => Q .normal t w) (t 0) w
theorem F48_0_step (Kn : Value -> Value -> World -> Prop) (t : Tm) (w : World) : (F48_0 Kn (t 0) w) = rsh [(0,(.agg [.ptr,.ptr]))] t (fun t => vc Tryz.prog (orcOf []) [0] (getAt F48_code [0]) (F48_0C Kn) t w) := by kernel_rfl
theorem F48_0_oc : okC Tryz.prog Tryz.f48.ntmps (getAt F48_code [0]) = true := by kernel_rfl
theorem F48_0_ok0 : ∀ Q t w,F48_0O Q t w -> W Tryz.prog Tryz.f48.ntmps (getAt F48_code [0]) Q t w := by
 intro Q t w h
 unfold F48_0O at h
 rw [F48_0_step] at h
 refine (vc_sound mixed (orcNil F48_code) _ _ rfl F48_0_oc _ _ _ (rsh_out h)).mono ?_
 intro o t w q
 cases o with
 | normal => exact out_ok [1,2] q
 | exit i => exact q.elim
 | ret => exact q.elim
end
section
attribute [local instance] Esc.none
def F48_1C (Kn : Value -> Value -> World -> Prop) : Post := fun o t w => match o with | .normal => Kn (t 1) (t 3) w | .exit _ => False | .ret => False
def F48_1 (Kn : Value -> Value -> World -> Prop) (x1 : Value) (w : World) : Prop :=
 rdA x1 fun a1 => ldP (a1.add 0) w fun p2 => ldP (a1.add 1) w fun p3 => ldP (a1.add 0) w fun p4 => ldP (a1.add 1) w fun p5 => ldP (a1.add 0) w fun p6 => ldP (a1.add 1) w fun p7 => alc (.cells #[(.func (.func 69) #[(.agg #[(.pointer p2),(.pointer p3)])] #[]),(.func (.func 70) #[(.agg #[(.pointer p4),(.pointer p5)])] #[]),(.func (.func 71) #[(.agg #[(.pointer p6),(.pointer p7)])] #[])] 1) w fun b8 w9 => Kn (.pointer (some a1)) (.slice (some (Addr.mk b8 0 none)) 3 3) w9
def F48_1O (Q : Post) (t : Tm) (w : World) : Prop := F48_1 (fun y1 y3 w => ∀ g,rsh [(1,(.one .adr)),(3,(.one .slc))] (upds g [(1,y1),(3,y3)]) fun t => Q .normal t w) (t 1) w
theorem F48_1_step (Kn : Value -> Value -> World -> Prop) (t : Tm) (w : World) : (F48_1 Kn (t 1) w) = rsh [(1,(.one .adr))] t (fun t => vc Tryz.prog (orcOf []) [0,1] (getAt F48_code [0,1]) (F48_1C Kn) t w) := by kernel_rfl
theorem F48_1_oc : okC Tryz.prog Tryz.f48.ntmps (getAt F48_code [0,1]) = true := by kernel_rfl
theorem F48_1_ok0 : ∀ Q t w,F48_1O Q t w -> W Tryz.prog Tryz.f48.ntmps (getAt F48_code [0,1]) Q t w := by
 intro Q t w h
 unfold F48_1O at h
 rw [F48_1_step] at h
 refine (vc_sound mixed (orcNil F48_code) _ _ rfl F48_1_oc _ _ _ (rsh_out h)).mono ?_
 intro o t w q
 cases o with
 | normal => exact out_ok [1,3] q
 | exit i => exact q.elim
 | ret => exact q.elim
end
end Go.Proofs.YtilenpnpnbdndaaGreatDoor
namespace Go.Proofs.YtilenpnpnbdndaaGreatDoor
open Go Go.Sh
set_option maxRecDepth 100000
attribute [local instance] Esc.none
section
variable {W w : World} {N : List HP} {q1 q2 : Option Addr}
theorem code48 : F48_code = .seq (getAt F48_code [0]) (.seq (getAt F48_code [0,1]) (.seq (getAt F48_code [0,1,1]) .ret)) := by kernel_rfl
theorem body48 : Tryz.f48.body = some F48_code := by kernel_rfl
theorem c48 (h : Hs W N w) : Calls Tryz.prog 48 #[.agg #[.pointer q1,.pointer q2]] w (rt fun v w' => ∃ b bb x3 c3,v = .slice (some ⟨b,0,none⟩) 14 14 /\
  Hs W (slP 86 3 (some ⟨b,0,none⟩) 14 14 (rows48 bb x3 c3) :: slP 1 1 x3 3 c3 (pkt q1 q2) :: (AL.map (Ae q1 q2 bb (2 ^ 69 - 1)) ++ N)) w') := by
 refine Calls.mono (calls_of (c := F48_code) mixed Tryz.func48 body48 (nlt rfl) ?_) fun _ _ => rv_none
 rw [code48]
 refine W_seq (F48_0_ok0 _ _ _ ?_)
 unfold F48_0O F48_0
 refine ⟨q1,q2,rfl,?_⟩
 refine h.alc fun bx w1 h1 => ?_
 intro g
 refine ⟨_,rfl,_,_,_,rfl,?_⟩
 refine W_seq (F48_1_ok0 _ _ _ ?_)
 unfold F48_1O
 show F48_1 _ (.pointer (some ⟨bx,0,none⟩)) _
 unfold F48_1
 simp only [rdA_mk]
 refine h1.ldP 0 rfl rfl (h1.ldP 0 rfl rfl (h1.ldP 0 rfl rfl (h1.ldP 0 rfl rfl (h1.ldP 0 rfl rfl (h1.ldP 0 rfl rfl ?_)))))
 refine h1.alc fun b8 w2 h2 => ?_
 intro g2
 refine ⟨_,rfl,_,_,_,rfl,?_⟩
 have h3 : Hs W (pt bx (.cells #[.pointer q1,.pointer q2] 82) :: slP 1 1 (some ⟨b8,0,none⟩) 3 3 (pkt q1 q2) :: N) w2 := (pt_sl h2 rfl (show (3 : Nat) <= maxLen by unfold maxLen; omega)).perm (List.Perm.swap _ _ _)
 refine W_seq (reg48 h3 rfl rfl fun b bb w' t' h' ht => ?_)
 refine fun r ds a ha => wpIn_ret ⟨t',ha.free,?_⟩
 show resL Tryz.prog t' w' Tryz.f48.results.toList _
 have hres : Tryz.f48.results.toList = [.tmp 2] := by kernel_rfl
 rw [hres]
 show (fun vs => _) [t' 2]
 rw [ht]
 exact ⟨b,bb,_,_,rfl,h'.erase 1⟩
end
end Go.Proofs.YtilenpnpnbdndaaGreatDoor
namespace Go.Proofs.YtilenpnpnbdndaaGreatDoor
open Go Go.Sh
set_option maxRecDepth 100000
attribute [local instance] Esc.none
def recs (bb : Nat -> Option Addr × Nat) (x3 : Option Addr) (c3 : Nat) : List R85 := [⟨1,⟨#[111,112,101,110]⟩,(bb 2).1,1,(bb 2).2⟩,⟨2,⟨#[115,101,110,100]⟩,(bb 14).1,5,(bb 14).2⟩,⟨3,⟨#[114,101,99,101,105,118,101]⟩,(bb 18).1,1,(bb 18).2⟩,⟨4,⟨#[115,104,117,116,100,111,119,110]⟩,(bb 22).1,1,(bb 22).2⟩,⟨5,⟨#[97,98,111,114,116]⟩,(bb 28).1,2,(bb 28).2⟩,⟨6,⟨#[116,105,99,107]⟩,(bb 32).1,1,(bb 32).2⟩,⟨7,⟨#[99,108,111,99,107]⟩,(bb 36).1,1,(bb 36).2⟩,⟨8,⟨#[100,101,108,105,118,101,114]⟩,x3,3,c3⟩,⟨9,⟨#[100,114,111,112]⟩,x3,3,c3⟩,⟨10,⟨#[116,119,105,99,101]⟩,x3,3,c3⟩,⟨11,⟨#[115,112,111,105,108]⟩,(bb 51).1,5,(bb 51).2⟩,⟨12,⟨#[102,111,114,103,101]⟩,(bb 59).1,3,(bb 59).2⟩,⟨13,⟨#[100,111,119,110]⟩,(bb 63).1,1,(bb 63).2⟩,⟨14,⟨#[117,112]⟩,(bb 67).1,1,(bb 67).2⟩]
theorem rows_recs (bb : Nat -> Option Addr × Nat) (x3 : Option Addr) (c3 : Nat) : rows48 bb x3 c3 = (recs bb x3 c3).flatMap R85.l := rfl
def vtab : List (Int × ByteArray × List Nat) := [(1,⟨#[111,112,101,110]⟩,[69]),(2,⟨#[115,101,110,100]⟩,[69,72,73,74,75]),(3,⟨#[114,101,99,101,105,118,101]⟩,[69]),(4,⟨#[115,104,117,116,100,111,119,110]⟩,[69]),(5,⟨#[97,98,111,114,116]⟩,[69,76]),(6,⟨#[116,105,99,107]⟩,[69]),(7,⟨#[99,108,111,99,107]⟩,[77]),(8,⟨#[100,101,108,105,118,101,114]⟩,[69,70,71]),(9,⟨#[100,114,111,112]⟩,[69,70,71]),(10,⟨#[116,119,105,99,101]⟩,[69,70,71]),(11,⟨#[115,112,111,105,108]⟩,[69,70,71,79,80]),(12,⟨#[102,111,114,103,101]⟩,[69,70,75]),(13,⟨#[100,111,119,110]⟩,[70]),(14,⟨#[117,112]⟩,[70])]
section
variable {W w : World} {L : List HP} {q1 q2 : Option Addr} {ba : Addr} {rs : List R85}
theorem Ae_on {bb : Nat -> Option Addr × Nat} (k : Nat) (hk : lv (2 ^ 69 - 1) k = true) : Ae q1 q2 bb (2 ^ 69 - 1) k = slP 1 1 (bb k).1 (AN k) (bb k).2 (AP q1 q2 k) := if_pos hk
def tabP (q1 q2 : Option Addr) (ba : Addr) (rs : List R85) : HP := ex fun p : (Nat -> Option Addr × Nat) × Option Addr × Nat => pr (rs = recs p.1 p.2.1 p.2.2) (bigS (slP 86 3 (some ba) 14 14 (rows48 p.1 p.2.1 p.2.2) :: slP 1 1 p.2.1 3 p.2.2 (pkt q1 q2) :: AL.map (Ae q1 q2 p.1 (2 ^ 69 - 1))))
theorem tab_open (h : Hs W (tabP q1 q2 ba rs :: L) w) : ∃ bb x3 c3,rs = recs bb x3 c3 /\ Hs W (slP 86 3 (some ba) 14 14 (rows48 bb x3 c3) :: slP 1 1 x3 3 c3 (pkt q1 q2) :: (AL.map (Ae q1 q2 bb (2 ^ 69 - 1)) ++ L)) w := by
 obtain ⟨⟨bb,x3,c3⟩,h⟩ := Hs.cons_ex.1 h
 obtain ⟨e,h⟩ := Hs.cons_pr.1 h
 exact ⟨bb,x3,c3,e,Hs.cons_bigS.1 h⟩
theorem tab_rows (h : Hs W (tabP q1 q2 ba rs :: L) w) : Rd w (some ba) (rs.flatMap R85.l) := by
 obtain ⟨bb,x3,c3,rfl,h2⟩ := tab_open h
 rw [rows_recs] at h2
 exact h2.rd 0 rfl
theorem tab_sig (h : Hs W (tabP q1 q2 ba rs :: L) w) : rs.map (fun r => (r.f0,r.f1)) = vtab.map (fun t => (t.1,t.2.1)) := by
 obtain ⟨bb,x3,c3,rfl,h2⟩ := tab_open h
 rfl
theorem tab_at (h : Hs W (tabP q1 q2 ba rs :: L) w) {i : Nat} {k : Int} {nm : ByteArray} {ps : List Nat} (hv : vtab[i]? = some (k,nm,ps)) : ∃ r,rs[i]? = some r /\ r.f0 = k /\ r.f1 = nm /\ r.f2n = ps.length /\ Rd w r.f2a (ps.map (fv q1 q2)) := by
 obtain ⟨bb,x3,c3,rfl,h2⟩ := tab_open h
 match i,hv with
 | 0,hv =>
  cases hv
  have h3 : Hs W (slP 86 3 (some ba) 14 14 (rows48 bb x3 c3) :: slP 1 1 x3 3 c3 (pkt q1 q2) :: (AL.map (Ae q1 q2 bb (2 ^ 69 - 1)) ++ L)) w := h2
  exact ⟨_,rfl,rfl,rfl,rfl,h3.rd 2 (congrArg some (Ae_on 2 (by decide +kernel)))⟩
 | 1,hv =>
  cases hv
  have h3 : Hs W (slP 86 3 (some ba) 14 14 (rows48 bb x3 c3) :: slP 1 1 x3 3 c3 (pkt q1 q2) :: (AL.map (Ae q1 q2 bb (2 ^ 69 - 1)) ++ L)) w := h2
  exact ⟨_,rfl,rfl,rfl,rfl,h3.rd 3 (congrArg some (Ae_on 14 (by decide +kernel)))⟩
 | 2,hv =>
  cases hv
  have h3 : Hs W (slP 86 3 (some ba) 14 14 (rows48 bb x3 c3) :: slP 1 1 x3 3 c3 (pkt q1 q2) :: (AL.map (Ae q1 q2 bb (2 ^ 69 - 1)) ++ L)) w := h2
  exact ⟨_,rfl,rfl,rfl,rfl,h3.rd 4 (congrArg some (Ae_on 18 (by decide +kernel)))⟩
 | 3,hv =>
  cases hv
  have h3 : Hs W (slP 86 3 (some ba) 14 14 (rows48 bb x3 c3) :: slP 1 1 x3 3 c3 (pkt q1 q2) :: (AL.map (Ae q1 q2 bb (2 ^ 69 - 1)) ++ L)) w := h2
  exact ⟨_,rfl,rfl,rfl,rfl,h3.rd 5 (congrArg some (Ae_on 22 (by decide +kernel)))⟩
 | 4,hv =>
  cases hv
  have h3 : Hs W (slP 86 3 (some ba) 14 14 (rows48 bb x3 c3) :: slP 1 1 x3 3 c3 (pkt q1 q2) :: (AL.map (Ae q1 q2 bb (2 ^ 69 - 1)) ++ L)) w := h2
  exact ⟨_,rfl,rfl,rfl,rfl,h3.rd 6 (congrArg some (Ae_on 28 (by decide +kernel)))⟩
 | 5,hv =>
  cases hv
  have h3 : Hs W (slP 86 3 (some ba) 14 14 (rows48 bb x3 c3) :: slP 1 1 x3 3 c3 (pkt q1 q2) :: (AL.map (Ae q1 q2 bb (2 ^ 69 - 1)) ++ L)) w := h2
  exact ⟨_,rfl,rfl,rfl,rfl,h3.rd 7 (congrArg some (Ae_on 32 (by decide +kernel)))⟩
 | 6,hv =>
  cases hv
  have h3 : Hs W (slP 86 3 (some ba) 14 14 (rows48 bb x3 c3) :: slP 1 1 x3 3 c3 (pkt q1 q2) :: (AL.map (Ae q1 q2 bb (2 ^ 69 - 1)) ++ L)) w := h2
  exact ⟨_,rfl,rfl,rfl,rfl,h3.rd 8 (congrArg some (Ae_on 36 (by decide +kernel)))⟩
 | 7,hv =>
  cases hv
  exact ⟨_,rfl,rfl,rfl,rfl,h2.rd 1 rfl⟩
 | 8,hv =>
  cases hv
  exact ⟨_,rfl,rfl,rfl,rfl,h2.rd 1 rfl⟩
 | 9,hv =>
  cases hv
  exact ⟨_,rfl,rfl,rfl,rfl,h2.rd 1 rfl⟩
 | 10,hv =>
  cases hv
  have h3 : Hs W (slP 86 3 (some ba) 14 14 (rows48 bb x3 c3) :: slP 1 1 x3 3 c3 (pkt q1 q2) :: (AL.map (Ae q1 q2 bb (2 ^ 69 - 1)) ++ L)) w := h2
  exact ⟨_,rfl,rfl,rfl,rfl,h3.rd 11 (congrArg some (Ae_on 51 (by decide +kernel)))⟩
 | 11,hv =>
  cases hv
  have h3 : Hs W (slP 86 3 (some ba) 14 14 (rows48 bb x3 c3) :: slP 1 1 x3 3 c3 (pkt q1 q2) :: (AL.map (Ae q1 q2 bb (2 ^ 69 - 1)) ++ L)) w := h2
  exact ⟨_,rfl,rfl,rfl,rfl,h3.rd 12 (congrArg some (Ae_on 59 (by decide +kernel)))⟩
 | 12,hv =>
  cases hv
  have h3 : Hs W (slP 86 3 (some ba) 14 14 (rows48 bb x3 c3) :: slP 1 1 x3 3 c3 (pkt q1 q2) :: (AL.map (Ae q1 q2 bb (2 ^ 69 - 1)) ++ L)) w := h2
  exact ⟨_,rfl,rfl,rfl,rfl,h3.rd 13 (congrArg some (Ae_on 63 (by decide +kernel)))⟩
 | 13,hv =>
  cases hv
  have h3 : Hs W (slP 86 3 (some ba) 14 14 (rows48 bb x3 c3) :: slP 1 1 x3 3 c3 (pkt q1 q2) :: (AL.map (Ae q1 q2 bb (2 ^ 69 - 1)) ++ L)) w := h2
  exact ⟨_,rfl,rfl,rfl,rfl,h3.rd 14 (congrArg some (Ae_on 67 (by decide +kernel)))⟩
 | i + 14,hv => cases hv
theorem c48t (h : Hs W L w) : Calls Tryz.prog 48 #[.agg #[.pointer q1,.pointer q2]] w (rt fun v w' => ∃ ba rs,v = .slice (some ba) 14 14 /\ Hs W (tabP q1 q2 ba rs :: L) w') := by
 refine rt_mono (c48 h) ?_
 rintro v w' ⟨b,bb,x3,c3,rfl,h2⟩
 exact ⟨_,recs bb x3 c3,rfl,Hs.cons_ex.2 ⟨(bb,x3,c3),Hs.cons_pr.2 ⟨rfl,Hs.cons_bigS.2 h2⟩⟩⟩
theorem F49_loop {pf : Nat} {pa : Addr} {pd : R85 -> Bool} {K0 : World -> Prop} {Kr : Value -> World -> Prop} (hpf : okFn Tryz.prog pf = true)
  (hp : ∀ (r : R85) w',Hs W (tabP q1 q2 ba rs :: L) w' -> Calls Tryz.prog pf #[r.v,.pointer (some pa)] w' (rt fun v w'' => v = .bool (pd r) /\ Hs W (tabP q1 q2 ba rs :: L) w'')) (hl : rs.length = 14) :
  ∀ (rs2 rs1 : List R85) (k : Nat) (w : World),rs = rs1 ++ rs2 -> rs2.length < k -> Hs W (tabP q1 q2 ba rs :: L) w ->
   (∀ w',rs2.findIdx? pd = none -> Hs W (tabP q1 q2 ba rs :: L) w' -> K0 w') -> (∀ w' j,rs2.findIdx? pd = some j -> Hs W (tabP q1 q2 ba rs :: L) w' -> Kr (.int .i64 ((rs1.length + j : Nat) : Int)) w') ->
   F49_1 K0 Kr k (.slice (some ba) 14 14) (.func (.func pf) #[] #[.pointer (some pa)]) (.int .i64 14) (.int .i64 (rs1.length : Int)) w := by
 intro rs2
 induction rs2 with
 | nil =>
  intro rs1 k w hr hk h hK hR
  obtain ⟨k,rfl⟩ : ∃ i,k = i + 1 := ⟨k - 1,by omega⟩
  show F49_1B _ _ _ _ _ _ _ _
  unfold F49_1B
  simp only [rdC_mk,rdI_mk]
  have : rs1.length = 14 := by rw [← hl,hr]; simp
  rw [this,decide_eq_false (by omega),br_false]
  exact hK w rfl h
 | cons r rs2 ih =>
  intro rs1 k w hr hk h hK hR
  obtain ⟨k,rfl⟩ : ∃ i,k = i + 1 := ⟨k - 1,by omega⟩
  have hlen : rs1.length + (rs2.length + 1) = 14 := by rw [← hl,hr]; simp
  show F49_1B _ _ _ _ _ _ _ _
  unfold F49_1B
  simp only [rdC_mk,rdI_mk]
  rw [decide_eq_true (by omega),br_true]
  refine ixS_to (p := rs1.length) rfl (by omega) ?_
  refine ldR85_of (s := r) (Rd.atI (tab_rows h) (fun _ => rfl) (i := rs1.length) (by rw [hr]; simp)) ?_
  refine callV_of hpf ?_
  have e : (#[] ++ #[r.v] ++ #[.pointer (some pa)] : Array Value) = #[r.v,.pointer (some pa)] := by simp
  rw [e]
  refine call_of (hp r w h) ?_
  rintro _ w2 ⟨_,rfl,rfl,h2⟩
  refine ⟨pd r,rfl,_,rfl,?_⟩
  cases hpd : pd r with
  | true =>
   rw [br_true]
   exact hR w2 0 (by rw [List.findIdx?_cons,hpd]; rfl) h2
  | false =>
   rw [br_false]
   have e3 : IntKind.wrap .i64 ((rs1.length : Int) + 1) = (((rs1 ++ [r]).length : Nat) : Int) := by rw [wrap_i64 (by omega) (by omega)]; simp
   rw [e3]
   refine ih (rs1 ++ [r]) k w2 (by rw [hr]; simp) (by simp at hk; omega) h2 (fun w' hn h' => hK w' (by rw [List.findIdx?_cons,hpd,hn]; rfl) h') (fun w' j hj h' => ?_)
   have := hR w' (j + 1) (by rw [List.findIdx?_cons,hpd,hj]; rfl) h'
   have e4 : (rs1 ++ [r]).length + j = rs1.length + (j + 1) := by simp; omega
   rw [e4]
   exact this
theorem c49 {pf : Nat} {pa : Addr} {pd : R85 -> Bool} (hpf : okFn Tryz.prog pf = true)
  (hp : ∀ (r : R85) w',Hs W (tabP q1 q2 ba rs :: L) w' -> Calls Tryz.prog pf #[r.v,.pointer (some pa)] w' (rt fun v w'' => v = .bool (pd r) /\ Hs W (tabP q1 q2 ba rs :: L) w'')) (h : Hs W (tabP q1 q2 ba rs :: L) w) :
  Calls Tryz.prog 49 #[.slice (some ba) 14 14,.func (.func pf) #[] #[.pointer (some pa)]] w (rt fun v w' => Hs W (tabP q1 q2 ba rs :: L) w' /\ v = .int .i64 (match rs.findIdx? pd with | some j => (j : Int) | none => -1)) := by
 have hl : rs.length = 14 := by have := congrArg List.length (tab_sig h); simpa [vtab] using this
 refine F49_ok ?_
 unfold F49
 simp only [rdC_mk]
 refine ⟨15,F49_loop hpf hp hl rs [] 15 w rfl (by omega) h (fun w' hn h' => ?_) (fun w' j hj h' => ?_)⟩
 ·intro _
  rw [hn]
  exact ⟨h',rfl⟩
 ·intro _
  simp only [rdI_mk]
  rw [hj]
  refine ⟨h',?_⟩
  simp
theorem c26 {r : R85} {ab : Nat} {cs : Array Value} {T : TypeId} {n : Int} (h : Hs W L w) (i : Nat) (hi : L[i]? = some (pt ab (.cells cs T (0,0)))) (hv : cs[0]? = some (.int .i64 n)) : Calls Tryz.prog 26 #[r.v,.pointer (some ⟨ab,0,none⟩)] w (rt fun v w' => v = .bool (r.f0 == n) /\ Hs W L w') := by
 refine F26_ok ?_
 unfold F26
 refine exR85_of r ⟨rfl,?_⟩
 simp only [rdA_mk]
 refine h.alc fun b w2 h2 => ?_
 refine h2.ldI 0 rfl rfl ?_
 refine h2.ldI (i + 1) (by simpa using hi) hv ?_
 exact ⟨by first | rfl | trivial,h2.drop⟩
theorem c33 {r : R85} {ab : Nat} {T : TypeId} {s : ByteArray} (h : Hs W L w) (i : Nat) (hi : L[i]? = some (pt ab (.cells #[.string s] T (0,0)))) : Calls Tryz.prog 33 #[r.v,.pointer (some ⟨ab,0,none⟩)] w (rt fun v w' => v = .bool (decide (r.f1 = s)) /\ Hs W L w') := by
 refine F33_ok ?_
 unfold F33
 refine exR85_of r ⟨rfl,?_⟩
 simp only [rdA_mk]
 refine h.alc fun b w2 h2 => ?_
 refine h2.ldS 0 rfl rfl ?_
 refine h2.ldS (i + 1) (by simpa using hi) rfl ?_
 rw [str_beq]
 exact ⟨by first | rfl | trivial,h2.drop⟩
end
end Go.Proofs.YtilenpnpnbdndaaGreatDoor
