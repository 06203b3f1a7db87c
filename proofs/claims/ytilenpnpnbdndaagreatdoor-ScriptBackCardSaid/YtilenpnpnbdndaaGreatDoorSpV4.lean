/- Own text: part of the shallow reading of the code and of the contracts that are proved over it. -/
import Derived.Test.YtilenpnpnbdndaaGreatDoorSpV3
namespace Go.Proofs.YtilenpnpnbdndaaGreatDoor
open Go Go.Sh
set_option maxRecDepth 100000
attribute [local instance] Esc.none
theorem ready_bit {L : Nat} {d : Nat × Nat × Bool} (hr : readyB L d = true) {j : Nat} (hj : Nat.testBit d.2.1 j = true) : Nat.testBit L j = true := by
 unfold readyB at hr
 simp only [Bool.and_eq_true,nbeq] at hr
 have h2 : Nat.testBit (Nat.land d.2.1 L) j = true := by rw [hr.2]; exact hj
 rw [show Nat.land d.2.1 L = d.2.1 &&& L from rfl,Nat.testBit_and,Bool.and_eq_true] at h2
 exact h2.2
theorem ready_new {L : Nat} {d : Nat × Nat × Bool} (hr : readyB L d = true) : Nat.testBit L d.1 = false := by
 unfold readyB at hr
 simp only [Bool.and_eq_true,Bool.not_eq_true'] at hr
 exact hr.1
theorem D48_eq : D48 = [(0,0,true),(1,1,true),(2,2,false),(3,4,true),(4,0,true),(5,16,true),(6,0,true),(7,64,true),(8,0,true),(9,256,true),(10,0,true),(11,1024,true),(12,0,true),(13,4096,true),(14,10912,false),(15,16384,true),(16,0,true),(17,65536,true),(18,131072,false),(19,262144,true),(20,0,true),(21,1048576,true),(22,2097152,false),(23,4194304,true),(24,0,true),(25,16777216,true),(26,0,true),(27,67108864,true),(28,167772160,false),(29,268435456,true),(30,0,true),(31,1073741824,true),(32,2147483648,false),(33,4294967296,true),(34,0,true),(35,17179869184,true),(36,34359738368,false),(37,68719476736,true),(38,0,true),(39,274877906944,true),(40,0,true),(41,1099511627776,true),(42,0,true),(43,4398046511104,true),(44,0,true),(45,17592186044416,false),(46,0,true),(47,70368744177664,true),(48,0,true),(49,281474976710656,true),(50,703687441776640,false),(51,1161084278931456,false),(52,2251799813685248,true),(53,0,true),(54,9007199254740992,true),(55,0,true),(56,36028797018963968,true),(57,0,true),(58,144115188075855872,true),(59,378302368699121664,false),(60,576460752303423488,true),(61,0,true),(62,2305843009213693952,true),(63,4611686018427387904,false),(64,9223372036854775808,true),(65,0,true),(66,36893488147419103232,true),(67,73786976294838206464,false),(68,147573952589676412928,true),(69,314752086048743391240,false),(70,1180591620717411303423,true)] := by kernel_rfl
theorem mv {q1 q2 x3 : Option Addr} {c3 : Nat} (i : Nat) {v : Vt} (h : (VL q1 q2 x3 c3)[i]? = some v) : v ∈ VL q1 q2 x3 c3 := List.mem_of_getElem? h
abbrev LDk (wr : World) (bx : Nat) (q1 q2 : Option Addr) : Prop := ∀ K : Option Addr -> Option Addr -> Prop,K q1 q2 -> ldP ((Addr.mk bx 0 none).add 0) wr fun p => ldP ((Addr.mk bx 0 none).add 1) wr fun q => K p q
abbrev PRk (wr : World) (bx : Nat) (q1 q2 : Option Addr) : Prop := ∀ w',w'.heap[bx]? = some (.cells #[.pointer q1,.pointer q2] 82 (0,0)) -> Pres wr w'
section
variable {W w wr : World} {M : List HP} {bx : Nat} {q1 q2 x3 : Option Addr} {c3 : Nat} {bb : Nat -> Option Addr × Nat} {L : Nat} {t : Tm} {R : Tm -> World -> Prop}
theorem g0 (hj : Jb W M bx q1 q2 x3 c3 bb L t w) (_ : readyB L (0,0,true) = true) (hld : LDk wr bx q1 q2) (hR : ∀ bb t' w',Jb W M bx q1 q2 x3 c3 bb (L ||| 2 ^ 0) t' w' -> R t' w') : SA wr 0 t w R := by
 exact st0 hj.t1 (hld _ (hR _ _ _ (hj.still (mv 0 rfl) (show (0 : Nat) ∉ AL by decide) (.inl rfl) (rfl))))
theorem g1 (hj : Jb W M bx q1 q2 x3 c3 bb L t w) (hr : readyB L (1,1,true) = true) (hR : ∀ bb t' w',Jb W M bx q1 q2 x3 c3 bb (L ||| 2 ^ 1) t' w' -> R t' w') : SA wr 1 t w R := by
 obtain ⟨e,-⟩ := hj.vals _ (mv 0 rfl) (ready_bit hr (j := 0) rfl)
 exact st1 (hR _ _ _ (hj.still (mv 1 rfl) (show (1 : Nat) ∉ AL by decide) (.inl rfl) (by rw [e]; rfl)))
theorem g2 (hj : Jb W M bx q1 q2 x3 c3 bb L t w) (hr : readyB L (2,2,false) = true) (hpr : PRk wr bx q1 q2) (hR : ∀ bb t' w',Jb W M bx q1 q2 x3 c3 bb (L ||| 2 ^ 2) t' w' -> R t' w') : SA wr 2 t w R := by
 obtain ⟨e12,-⟩ := hj.vals _ (mv 1 rfl) (ready_bit hr (j := 1) rfl)
 refine st2 e12 ?_
 exact hj.hs.alc fun b w' h' => ⟨hpr _ (h'.at 1 rfl),hR _ _ _ (hj.make (mv 2 rfl) (show (2 : Nat) ∈ AL by decide) (show (2 : Nat) ≠ 51 by decide) (fun e => absurd e (show (2 : Nat) ≠ 45 by decide)) rfl (ready_new hr) (x := (some ⟨b,0,none⟩,1)) (pt_sl h' rfl (show (1 : Nat) <= maxLen by unfold maxLen; omega)))⟩
theorem g3 (hj : Jb W M bx q1 q2 x3 c3 bb L t w) (hr : readyB L (3,4,true) = true) (hR : ∀ bb t' w',Jb W M bx q1 q2 x3 c3 bb (L ||| 2 ^ 3) t' w' -> R t' w') : SA wr 3 t w R := by
 obtain ⟨e,-⟩ := hj.vals _ (mv 2 rfl) (ready_bit hr (j := 2) rfl)
 exact st3 e (hR _ _ _ (hj.still (mv 3 rfl) (show (3 : Nat) ∉ AL by decide) (.inr (ready_bit hr (j := 2) rfl)) (rfl)))
theorem g4 (hj : Jb W M bx q1 q2 x3 c3 bb L t w) (_ : readyB L (4,0,true) = true) (hld : LDk wr bx q1 q2) (hR : ∀ bb t' w',Jb W M bx q1 q2 x3 c3 bb (L ||| 2 ^ 4) t' w' -> R t' w') : SA wr 4 t w R := by
 exact st4 hj.t1 (hld _ (hR _ _ _ (hj.still (mv 4 rfl) (show (4 : Nat) ∉ AL by decide) (.inl rfl) (rfl))))
theorem g5 (hj : Jb W M bx q1 q2 x3 c3 bb L t w) (hr : readyB L (5,16,true) = true) (hR : ∀ bb t' w',Jb W M bx q1 q2 x3 c3 bb (L ||| 2 ^ 5) t' w' -> R t' w') : SA wr 5 t w R := by
 obtain ⟨e,-⟩ := hj.vals _ (mv 4 rfl) (ready_bit hr (j := 4) rfl)
 exact st5 (hR _ _ _ (hj.still (mv 5 rfl) (show (5 : Nat) ∉ AL by decide) (.inl rfl) (by rw [e]; rfl)))
theorem g6 (hj : Jb W M bx q1 q2 x3 c3 bb L t w) (_ : readyB L (6,0,true) = true) (hld : LDk wr bx q1 q2) (hR : ∀ bb t' w',Jb W M bx q1 q2 x3 c3 bb (L ||| 2 ^ 6) t' w' -> R t' w') : SA wr 6 t w R := by
 exact st6 hj.t1 (hld _ (hR _ _ _ (hj.still (mv 6 rfl) (show (6 : Nat) ∉ AL by decide) (.inl rfl) (rfl))))
theorem g7 (hj : Jb W M bx q1 q2 x3 c3 bb L t w) (hr : readyB L (7,64,true) = true) (hR : ∀ bb t' w',Jb W M bx q1 q2 x3 c3 bb (L ||| 2 ^ 7) t' w' -> R t' w') : SA wr 7 t w R := by
 obtain ⟨e,-⟩ := hj.vals _ (mv 6 rfl) (ready_bit hr (j := 6) rfl)
 exact st7 (hR _ _ _ (hj.still (mv 7 rfl) (show (7 : Nat) ∉ AL by decide) (.inl rfl) (by rw [e]; rfl)))
theorem g8 (hj : Jb W M bx q1 q2 x3 c3 bb L t w) (_ : readyB L (8,0,true) = true) (hld : LDk wr bx q1 q2) (hR : ∀ bb t' w',Jb W M bx q1 q2 x3 c3 bb (L ||| 2 ^ 8) t' w' -> R t' w') : SA wr 8 t w R := by
 exact st8 hj.t1 (hld _ (hR _ _ _ (hj.still (mv 8 rfl) (show (8 : Nat) ∉ AL by decide) (.inl rfl) (rfl))))
theorem g9 (hj : Jb W M bx q1 q2 x3 c3 bb L t w) (hr : readyB L (9,256,true) = true) (hR : ∀ bb t' w',Jb W M bx q1 q2 x3 c3 bb (L ||| 2 ^ 9) t' w' -> R t' w') : SA wr 9 t w R := by
 obtain ⟨e,-⟩ := hj.vals _ (mv 8 rfl) (ready_bit hr (j := 8) rfl)
 exact st9 (hR _ _ _ (hj.still (mv 9 rfl) (show (9 : Nat) ∉ AL by decide) (.inl rfl) (by rw [e]; rfl)))
theorem g10 (hj : Jb W M bx q1 q2 x3 c3 bb L t w) (_ : readyB L (10,0,true) = true) (hld : LDk wr bx q1 q2) (hR : ∀ bb t' w',Jb W M bx q1 q2 x3 c3 bb (L ||| 2 ^ 10) t' w' -> R t' w') : SA wr 10 t w R := by
 exact st10 hj.t1 (hld _ (hR _ _ _ (hj.still (mv 10 rfl) (show (10 : Nat) ∉ AL by decide) (.inl rfl) (rfl))))
theorem g11 (hj : Jb W M bx q1 q2 x3 c3 bb L t w) (hr : readyB L (11,1024,true) = true) (hR : ∀ bb t' w',Jb W M bx q1 q2 x3 c3 bb (L ||| 2 ^ 11) t' w' -> R t' w') : SA wr 11 t w R := by
 obtain ⟨e,-⟩ := hj.vals _ (mv 10 rfl) (ready_bit hr (j := 10) rfl)
 exact st11 (hR _ _ _ (hj.still (mv 11 rfl) (show (11 : Nat) ∉ AL by decide) (.inl rfl) (by rw [e]; rfl)))
theorem g12 (hj : Jb W M bx q1 q2 x3 c3 bb L t w) (_ : readyB L (12,0,true) = true) (hld : LDk wr bx q1 q2) (hR : ∀ bb t' w',Jb W M bx q1 q2 x3 c3 bb (L ||| 2 ^ 12) t' w' -> R t' w') : SA wr 12 t w R := by
 exact st12 hj.t1 (hld _ (hR _ _ _ (hj.still (mv 12 rfl) (show (12 : Nat) ∉ AL by decide) (.inl rfl) (rfl))))
theorem g13 (hj : Jb W M bx q1 q2 x3 c3 bb L t w) (hr : readyB L (13,4096,true) = true) (hR : ∀ bb t' w',Jb W M bx q1 q2 x3 c3 bb (L ||| 2 ^ 13) t' w' -> R t' w') : SA wr 13 t w R := by
 obtain ⟨e,-⟩ := hj.vals _ (mv 12 rfl) (ready_bit hr (j := 12) rfl)
 exact st13 (hR _ _ _ (hj.still (mv 13 rfl) (show (13 : Nat) ∉ AL by decide) (.inl rfl) (by rw [e]; rfl)))
theorem g14 (hj : Jb W M bx q1 q2 x3 c3 bb L t w) (hr : readyB L (14,10912,false) = true) (hpr : PRk wr bx q1 q2) (hR : ∀ bb t' w',Jb W M bx q1 q2 x3 c3 bb (L ||| 2 ^ 14) t' w' -> R t' w') : SA wr 14 t w R := by
 obtain ⟨e16,-⟩ := hj.vals _ (mv 5 rfl) (ready_bit hr (j := 5) rfl)
 obtain ⟨e18,-⟩ := hj.vals _ (mv 7 rfl) (ready_bit hr (j := 7) rfl)
 obtain ⟨e20,-⟩ := hj.vals _ (mv 9 rfl) (ready_bit hr (j := 9) rfl)
 obtain ⟨e22,-⟩ := hj.vals _ (mv 11 rfl) (ready_bit hr (j := 11) rfl)
 obtain ⟨e24,-⟩ := hj.vals _ (mv 13 rfl) (ready_bit hr (j := 13) rfl)
 refine st14 e16 e18 e20 e22 e24 ?_
 exact hj.hs.alc fun b w' h' => ⟨hpr _ (h'.at 1 rfl),hR _ _ _ (hj.make (mv 14 rfl) (show (14 : Nat) ∈ AL by decide) (show (14 : Nat) ≠ 51 by decide) (fun e => absurd e (show (14 : Nat) ≠ 45 by decide)) rfl (ready_new hr) (x := (some ⟨b,0,none⟩,5)) (pt_sl h' rfl (show (5 : Nat) <= maxLen by unfold maxLen; omega)))⟩
theorem g15 (hj : Jb W M bx q1 q2 x3 c3 bb L t w) (hr : readyB L (15,16384,true) = true) (hR : ∀ bb t' w',Jb W M bx q1 q2 x3 c3 bb (L ||| 2 ^ 15) t' w' -> R t' w') : SA wr 15 t w R := by
 obtain ⟨e,-⟩ := hj.vals _ (mv 14 rfl) (ready_bit hr (j := 14) rfl)
 exact st15 e (hR _ _ _ (hj.still (mv 15 rfl) (show (15 : Nat) ∉ AL by decide) (.inr (ready_bit hr (j := 14) rfl)) (rfl)))
theorem g16 (hj : Jb W M bx q1 q2 x3 c3 bb L t w) (_ : readyB L (16,0,true) = true) (hld : LDk wr bx q1 q2) (hR : ∀ bb t' w',Jb W M bx q1 q2 x3 c3 bb (L ||| 2 ^ 16) t' w' -> R t' w') : SA wr 16 t w R := by
 exact st16 hj.t1 (hld _ (hR _ _ _ (hj.still (mv 16 rfl) (show (16 : Nat) ∉ AL by decide) (.inl rfl) (rfl))))
theorem g17 (hj : Jb W M bx q1 q2 x3 c3 bb L t w) (hr : readyB L (17,65536,true) = true) (hR : ∀ bb t' w',Jb W M bx q1 q2 x3 c3 bb (L ||| 2 ^ 17) t' w' -> R t' w') : SA wr 17 t w R := by
 obtain ⟨e,-⟩ := hj.vals _ (mv 16 rfl) (ready_bit hr (j := 16) rfl)
 exact st17 (hR _ _ _ (hj.still (mv 17 rfl) (show (17 : Nat) ∉ AL by decide) (.inl rfl) (by rw [e]; rfl)))
theorem g18 (hj : Jb W M bx q1 q2 x3 c3 bb L t w) (hr : readyB L (18,131072,false) = true) (hpr : PRk wr bx q1 q2) (hR : ∀ bb t' w',Jb W M bx q1 q2 x3 c3 bb (L ||| 2 ^ 18) t' w' -> R t' w') : SA wr 18 t w R := by
 obtain ⟨e28,-⟩ := hj.vals _ (mv 17 rfl) (ready_bit hr (j := 17) rfl)
 refine st18 e28 ?_
 exact hj.hs.alc fun b w' h' => ⟨hpr _ (h'.at 1 rfl),hR _ _ _ (hj.make (mv 18 rfl) (show (18 : Nat) ∈ AL by decide) (show (18 : Nat) ≠ 51 by decide) (fun e => absurd e (show (18 : Nat) ≠ 45 by decide)) rfl (ready_new hr) (x := (some ⟨b,0,none⟩,1)) (pt_sl h' rfl (show (1 : Nat) <= maxLen by unfold maxLen; omega)))⟩
theorem g19 (hj : Jb W M bx q1 q2 x3 c3 bb L t w) (hr : readyB L (19,262144,true) = true) (hR : ∀ bb t' w',Jb W M bx q1 q2 x3 c3 bb (L ||| 2 ^ 19) t' w' -> R t' w') : SA wr 19 t w R := by
 obtain ⟨e,-⟩ := hj.vals _ (mv 18 rfl) (ready_bit hr (j := 18) rfl)
 exact st19 e (hR _ _ _ (hj.still (mv 19 rfl) (show (19 : Nat) ∉ AL by decide) (.inr (ready_bit hr (j := 18) rfl)) (rfl)))
theorem g20 (hj : Jb W M bx q1 q2 x3 c3 bb L t w) (_ : readyB L (20,0,true) = true) (hld : LDk wr bx q1 q2) (hR : ∀ bb t' w',Jb W M bx q1 q2 x3 c3 bb (L ||| 2 ^ 20) t' w' -> R t' w') : SA wr 20 t w R := by
 exact st20 hj.t1 (hld _ (hR _ _ _ (hj.still (mv 20 rfl) (show (20 : Nat) ∉ AL by decide) (.inl rfl) (rfl))))
theorem g21 (hj : Jb W M bx q1 q2 x3 c3 bb L t w) (hr : readyB L (21,1048576,true) = true) (hR : ∀ bb t' w',Jb W M bx q1 q2 x3 c3 bb (L ||| 2 ^ 21) t' w' -> R t' w') : SA wr 21 t w R := by
 obtain ⟨e,-⟩ := hj.vals _ (mv 20 rfl) (ready_bit hr (j := 20) rfl)
 exact st21 (hR _ _ _ (hj.still (mv 21 rfl) (show (21 : Nat) ∉ AL by decide) (.inl rfl) (by rw [e]; rfl)))
theorem g22 (hj : Jb W M bx q1 q2 x3 c3 bb L t w) (hr : readyB L (22,2097152,false) = true) (hpr : PRk wr bx q1 q2) (hR : ∀ bb t' w',Jb W M bx q1 q2 x3 c3 bb (L ||| 2 ^ 22) t' w' -> R t' w') : SA wr 22 t w R := by
 obtain ⟨e32,-⟩ := hj.vals _ (mv 21 rfl) (ready_bit hr (j := 21) rfl)
 refine st22 e32 ?_
 exact hj.hs.alc fun b w' h' => ⟨hpr _ (h'.at 1 rfl),hR _ _ _ (hj.make (mv 22 rfl) (show (22 : Nat) ∈ AL by decide) (show (22 : Nat) ≠ 51 by decide) (fun e => absurd e (show (22 : Nat) ≠ 45 by decide)) rfl (ready_new hr) (x := (some ⟨b,0,none⟩,1)) (pt_sl h' rfl (show (1 : Nat) <= maxLen by unfold maxLen; omega)))⟩
theorem g23 (hj : Jb W M bx q1 q2 x3 c3 bb L t w) (hr : readyB L (23,4194304,true) = true) (hR : ∀ bb t' w',Jb W M bx q1 q2 x3 c3 bb (L ||| 2 ^ 23) t' w' -> R t' w') : SA wr 23 t w R := by
 obtain ⟨e,-⟩ := hj.vals _ (mv 22 rfl) (ready_bit hr (j := 22) rfl)
 exact st23 e (hR _ _ _ (hj.still (mv 23 rfl) (show (23 : Nat) ∉ AL by decide) (.inr (ready_bit hr (j := 22) rfl)) (rfl)))
theorem g24 (hj : Jb W M bx q1 q2 x3 c3 bb L t w) (_ : readyB L (24,0,true) = true) (hld : LDk wr bx q1 q2) (hR : ∀ bb t' w',Jb W M bx q1 q2 x3 c3 bb (L ||| 2 ^ 24) t' w' -> R t' w') : SA wr 24 t w R := by
 exact st24 hj.t1 (hld _ (hR _ _ _ (hj.still (mv 24 rfl) (show (24 : Nat) ∉ AL by decide) (.inl rfl) (rfl))))
theorem g25 (hj : Jb W M bx q1 q2 x3 c3 bb L t w) (hr : readyB L (25,16777216,true) = true) (hR : ∀ bb t' w',Jb W M bx q1 q2 x3 c3 bb (L ||| 2 ^ 25) t' w' -> R t' w') : SA wr 25 t w R := by
 obtain ⟨e,-⟩ := hj.vals _ (mv 24 rfl) (ready_bit hr (j := 24) rfl)
 exact st25 (hR _ _ _ (hj.still (mv 25 rfl) (show (25 : Nat) ∉ AL by decide) (.inl rfl) (by rw [e]; rfl)))
theorem g26 (hj : Jb W M bx q1 q2 x3 c3 bb L t w) (_ : readyB L (26,0,true) = true) (hld : LDk wr bx q1 q2) (hR : ∀ bb t' w',Jb W M bx q1 q2 x3 c3 bb (L ||| 2 ^ 26) t' w' -> R t' w') : SA wr 26 t w R := by
 exact st26 hj.t1 (hld _ (hR _ _ _ (hj.still (mv 26 rfl) (show (26 : Nat) ∉ AL by decide) (.inl rfl) (rfl))))
theorem g27 (hj : Jb W M bx q1 q2 x3 c3 bb L t w) (hr : readyB L (27,67108864,true) = true) (hR : ∀ bb t' w',Jb W M bx q1 q2 x3 c3 bb (L ||| 2 ^ 27) t' w' -> R t' w') : SA wr 27 t w R := by
 obtain ⟨e,-⟩ := hj.vals _ (mv 26 rfl) (ready_bit hr (j := 26) rfl)
 exact st27 (hR _ _ _ (hj.still (mv 27 rfl) (show (27 : Nat) ∉ AL by decide) (.inl rfl) (by rw [e]; rfl)))
theorem g28 (hj : Jb W M bx q1 q2 x3 c3 bb L t w) (hr : readyB L (28,167772160,false) = true) (hpr : PRk wr bx q1 q2) (hR : ∀ bb t' w',Jb W M bx q1 q2 x3 c3 bb (L ||| 2 ^ 28) t' w' -> R t' w') : SA wr 28 t w R := by
 obtain ⟨e36,-⟩ := hj.vals _ (mv 25 rfl) (ready_bit hr (j := 25) rfl)
 obtain ⟨e38,-⟩ := hj.vals _ (mv 27 rfl) (ready_bit hr (j := 27) rfl)
 refine st28 e36 e38 ?_
 exact hj.hs.alc fun b w' h' => ⟨hpr _ (h'.at 1 rfl),hR _ _ _ (hj.make (mv 28 rfl) (show (28 : Nat) ∈ AL by decide) (show (28 : Nat) ≠ 51 by decide) (fun e => absurd e (show (28 : Nat) ≠ 45 by decide)) rfl (ready_new hr) (x := (some ⟨b,0,none⟩,2)) (pt_sl h' rfl (show (2 : Nat) <= maxLen by unfold maxLen; omega)))⟩
theorem g29 (hj : Jb W M bx q1 q2 x3 c3 bb L t w) (hr : readyB L (29,268435456,true) = true) (hR : ∀ bb t' w',Jb W M bx q1 q2 x3 c3 bb (L ||| 2 ^ 29) t' w' -> R t' w') : SA wr 29 t w R := by
 obtain ⟨e,-⟩ := hj.vals _ (mv 28 rfl) (ready_bit hr (j := 28) rfl)
 exact st29 e (hR _ _ _ (hj.still (mv 29 rfl) (show (29 : Nat) ∉ AL by decide) (.inr (ready_bit hr (j := 28) rfl)) (rfl)))
theorem g30 (hj : Jb W M bx q1 q2 x3 c3 bb L t w) (_ : readyB L (30,0,true) = true) (hld : LDk wr bx q1 q2) (hR : ∀ bb t' w',Jb W M bx q1 q2 x3 c3 bb (L ||| 2 ^ 30) t' w' -> R t' w') : SA wr 30 t w R := by
 exact st30 hj.t1 (hld _ (hR _ _ _ (hj.still (mv 30 rfl) (show (30 : Nat) ∉ AL by decide) (.inl rfl) (rfl))))
theorem g31 (hj : Jb W M bx q1 q2 x3 c3 bb L t w) (hr : readyB L (31,1073741824,true) = true) (hR : ∀ bb t' w',Jb W M bx q1 q2 x3 c3 bb (L ||| 2 ^ 31) t' w' -> R t' w') : SA wr 31 t w R := by
 obtain ⟨e,-⟩ := hj.vals _ (mv 30 rfl) (ready_bit hr (j := 30) rfl)
 exact st31 (hR _ _ _ (hj.still (mv 31 rfl) (show (31 : Nat) ∉ AL by decide) (.inl rfl) (by rw [e]; rfl)))
theorem g32 (hj : Jb W M bx q1 q2 x3 c3 bb L t w) (hr : readyB L (32,2147483648,false) = true) (hpr : PRk wr bx q1 q2) (hR : ∀ bb t' w',Jb W M bx q1 q2 x3 c3 bb (L ||| 2 ^ 32) t' w' -> R t' w') : SA wr 32 t w R := by
 obtain ⟨e42,-⟩ := hj.vals _ (mv 31 rfl) (ready_bit hr (j := 31) rfl)
 refine st32 e42 ?_
 exact hj.hs.alc fun b w' h' => ⟨hpr _ (h'.at 1 rfl),hR _ _ _ (hj.make (mv 32 rfl) (show (32 : Nat) ∈ AL by decide) (show (32 : Nat) ≠ 51 by decide) (fun e => absurd e (show (32 : Nat) ≠ 45 by decide)) rfl (ready_new hr) (x := (some ⟨b,0,none⟩,1)) (pt_sl h' rfl (show (1 : Nat) <= maxLen by unfold maxLen; omega)))⟩
theorem g33 (hj : Jb W M bx q1 q2 x3 c3 bb L t w) (hr : readyB L (33,4294967296,true) = true) (hR : ∀ bb t' w',Jb W M bx q1 q2 x3 c3 bb (L ||| 2 ^ 33) t' w' -> R t' w') : SA wr 33 t w R := by
 obtain ⟨e,-⟩ := hj.vals _ (mv 32 rfl) (ready_bit hr (j := 32) rfl)
 exact st33 e (hR _ _ _ (hj.still (mv 33 rfl) (show (33 : Nat) ∉ AL by decide) (.inr (ready_bit hr (j := 32) rfl)) (rfl)))
theorem g34 (hj : Jb W M bx q1 q2 x3 c3 bb L t w) (_ : readyB L (34,0,true) = true) (hld : LDk wr bx q1 q2) (hR : ∀ bb t' w',Jb W M bx q1 q2 x3 c3 bb (L ||| 2 ^ 34) t' w' -> R t' w') : SA wr 34 t w R := by
 exact st34 hj.t1 (hld _ (hR _ _ _ (hj.still (mv 34 rfl) (show (34 : Nat) ∉ AL by decide) (.inl rfl) (rfl))))
theorem g35 (hj : Jb W M bx q1 q2 x3 c3 bb L t w) (hr : readyB L (35,17179869184,true) = true) (hR : ∀ bb t' w',Jb W M bx q1 q2 x3 c3 bb (L ||| 2 ^ 35) t' w' -> R t' w') : SA wr 35 t w R := by
 obtain ⟨e,-⟩ := hj.vals _ (mv 34 rfl) (ready_bit hr (j := 34) rfl)
 exact st35 (hR _ _ _ (hj.still (mv 35 rfl) (show (35 : Nat) ∉ AL by decide) (.inl rfl) (by rw [e]; rfl)))
theorem g36 (hj : Jb W M bx q1 q2 x3 c3 bb L t w) (hr : readyB L (36,34359738368,false) = true) (hpr : PRk wr bx q1 q2) (hR : ∀ bb t' w',Jb W M bx q1 q2 x3 c3 bb (L ||| 2 ^ 36) t' w' -> R t' w') : SA wr 36 t w R := by
 obtain ⟨e46,-⟩ := hj.vals _ (mv 35 rfl) (ready_bit hr (j := 35) rfl)
 refine st36 e46 ?_
 exact hj.hs.alc fun b w' h' => ⟨hpr _ (h'.at 1 rfl),hR _ _ _ (hj.make (mv 36 rfl) (show (36 : Nat) ∈ AL by decide) (show (36 : Nat) ≠ 51 by decide) (fun e => absurd e (show (36 : Nat) ≠ 45 by decide)) rfl (ready_new hr) (x := (some ⟨b,0,none⟩,1)) (pt_sl h' rfl (show (1 : Nat) <= maxLen by unfold maxLen; omega)))⟩
theorem g37 (hj : Jb W M bx q1 q2 x3 c3 bb L t w) (hr : readyB L (37,68719476736,true) = true) (hR : ∀ bb t' w',Jb W M bx q1 q2 x3 c3 bb (L ||| 2 ^ 37) t' w' -> R t' w') : SA wr 37 t w R := by
 obtain ⟨e,-⟩ := hj.vals _ (mv 36 rfl) (ready_bit hr (j := 36) rfl)
 exact st37 e (hR _ _ _ (hj.still (mv 37 rfl) (show (37 : Nat) ∉ AL by decide) (.inr (ready_bit hr (j := 36) rfl)) (rfl)))
theorem g38 (hj : Jb W M bx q1 q2 x3 c3 bb L t w) (_ : readyB L (38,0,true) = true) (hR : ∀ bb t' w',Jb W M bx q1 q2 x3 c3 bb (L ||| 2 ^ 38) t' w' -> R t' w') : SA wr 38 t w R := by
 exact st38 (hR _ _ _ (hj.still (mv 38 rfl) (show (38 : Nat) ∉ AL by decide) (.inl rfl) (hj.t3)))
theorem g39 (hj : Jb W M bx q1 q2 x3 c3 bb L t w) (hr : readyB L (39,274877906944,true) = true) (hR : ∀ bb t' w',Jb W M bx q1 q2 x3 c3 bb (L ||| 2 ^ 39) t' w' -> R t' w') : SA wr 39 t w R := by
 obtain ⟨e,-⟩ := hj.vals _ (mv 38 rfl) (ready_bit hr (j := 38) rfl)
 exact st39 e (hR _ _ _ (hj.still (mv 39 rfl) (show (39 : Nat) ∉ AL by decide) (.inl rfl) (rfl)))
theorem g40 (hj : Jb W M bx q1 q2 x3 c3 bb L t w) (_ : readyB L (40,0,true) = true) (hR : ∀ bb t' w',Jb W M bx q1 q2 x3 c3 bb (L ||| 2 ^ 40) t' w' -> R t' w') : SA wr 40 t w R := by
 exact st40 (hR _ _ _ (hj.still (mv 40 rfl) (show (40 : Nat) ∉ AL by decide) (.inl rfl) (hj.t3)))
theorem g41 (hj : Jb W M bx q1 q2 x3 c3 bb L t w) (hr : readyB L (41,1099511627776,true) = true) (hR : ∀ bb t' w',Jb W M bx q1 q2 x3 c3 bb (L ||| 2 ^ 41) t' w' -> R t' w') : SA wr 41 t w R := by
 obtain ⟨e,-⟩ := hj.vals _ (mv 40 rfl) (ready_bit hr (j := 40) rfl)
 exact st41 e (hR _ _ _ (hj.still (mv 41 rfl) (show (41 : Nat) ∉ AL by decide) (.inl rfl) (rfl)))
theorem g42 (hj : Jb W M bx q1 q2 x3 c3 bb L t w) (_ : readyB L (42,0,true) = true) (hR : ∀ bb t' w',Jb W M bx q1 q2 x3 c3 bb (L ||| 2 ^ 42) t' w' -> R t' w') : SA wr 42 t w R := by
 exact st42 (hR _ _ _ (hj.still (mv 42 rfl) (show (42 : Nat) ∉ AL by decide) (.inl rfl) (hj.t3)))
theorem g43 (hj : Jb W M bx q1 q2 x3 c3 bb L t w) (hr : readyB L (43,4398046511104,true) = true) (hR : ∀ bb t' w',Jb W M bx q1 q2 x3 c3 bb (L ||| 2 ^ 43) t' w' -> R t' w') : SA wr 43 t w R := by
 obtain ⟨e,-⟩ := hj.vals _ (mv 42 rfl) (ready_bit hr (j := 42) rfl)
 exact st43 e (hR _ _ _ (hj.still (mv 43 rfl) (show (43 : Nat) ∉ AL by decide) (.inl rfl) (rfl)))
theorem g44 (hj : Jb W M bx q1 q2 x3 c3 bb L t w) (_ : readyB L (44,0,true) = true) (hR : ∀ bb t' w',Jb W M bx q1 q2 x3 c3 bb (L ||| 2 ^ 44) t' w' -> R t' w') : SA wr 44 t w R := by
 exact st44 (hR _ _ _ (hj.still (mv 44 rfl) (show (44 : Nat) ∉ AL by decide) (.inl rfl) (hj.t3)))
theorem g45 (hj : Jb W M bx q1 q2 x3 c3 bb L t w) (hr : readyB L (45,17592186044416,false) = true) (hpr : PRk wr bx q1 q2) (h51 : Nat.testBit L 51 = false) (hR : ∀ bb t' w',Jb W M bx q1 q2 x3 c3 bb (L ||| 2 ^ 45) t' w' -> R t' w') : SA wr 45 t w R := by
 obtain ⟨e,-⟩ := hj.vals _ (mv 44 rfl) (ready_bit hr (j := 44) rfl)
 refine st45 ?_
 rw [e]
 refine cl (c78 (xs := pkt q1 q2) hj.hs (hj.hs.rd 1 rfl) (fun u hu => by simp [pkt] at hu; rcases hu with rfl | rfl | rfl <;> rfl) (by simp [pkt])) ?_
 rintro _ w' ⟨a',c',rfl,h'⟩
 exact ⟨a',3,c',rfl,hpr _ (h'.at 1 rfl),hR _ _ _ (hj.make (mv 45 rfl) (show (45 : Nat) ∈ AL by decide) (show (45 : Nat) ≠ 51 by decide) (fun _ => h51) rfl (ready_new hr) (x := (a',c')) h')⟩
theorem g46 (hj : Jb W M bx q1 q2 x3 c3 bb L t w) (_ : readyB L (46,0,true) = true) (hld : LDk wr bx q1 q2) (hR : ∀ bb t' w',Jb W M bx q1 q2 x3 c3 bb (L ||| 2 ^ 46) t' w' -> R t' w') : SA wr 46 t w R := by
 exact st46 hj.t1 (hld _ (hR _ _ _ (hj.still (mv 46 rfl) (show (46 : Nat) ∉ AL by decide) (.inl rfl) (rfl))))
theorem g47 (hj : Jb W M bx q1 q2 x3 c3 bb L t w) (hr : readyB L (47,70368744177664,true) = true) (hR : ∀ bb t' w',Jb W M bx q1 q2 x3 c3 bb (L ||| 2 ^ 47) t' w' -> R t' w') : SA wr 47 t w R := by
 obtain ⟨e,-⟩ := hj.vals _ (mv 46 rfl) (ready_bit hr (j := 46) rfl)
 exact st47 (hR _ _ _ (hj.still (mv 47 rfl) (show (47 : Nat) ∉ AL by decide) (.inl rfl) (by rw [e]; rfl)))
theorem g48 (hj : Jb W M bx q1 q2 x3 c3 bb L t w) (_ : readyB L (48,0,true) = true) (hld : LDk wr bx q1 q2) (hR : ∀ bb t' w',Jb W M bx q1 q2 x3 c3 bb (L ||| 2 ^ 48) t' w' -> R t' w') : SA wr 48 t w R := by
 exact st48 hj.t1 (hld _ (hR _ _ _ (hj.still (mv 48 rfl) (show (48 : Nat) ∉ AL by decide) (.inl rfl) (rfl))))
theorem g49 (hj : Jb W M bx q1 q2 x3 c3 bb L t w) (hr : readyB L (49,281474976710656,true) = true) (hR : ∀ bb t' w',Jb W M bx q1 q2 x3 c3 bb (L ||| 2 ^ 49) t' w' -> R t' w') : SA wr 49 t w R := by
 obtain ⟨e,-⟩ := hj.vals _ (mv 48 rfl) (ready_bit hr (j := 48) rfl)
 exact st49 (hR _ _ _ (hj.still (mv 49 rfl) (show (49 : Nat) ∉ AL by decide) (.inl rfl) (by rw [e]; rfl)))
theorem g50 (hj : Jb W M bx q1 q2 x3 c3 bb L t w) (hr : readyB L (50,703687441776640,false) = true) (hpr : PRk wr bx q1 q2) (hR : ∀ bb t' w',Jb W M bx q1 q2 x3 c3 bb (L ||| 2 ^ 50) t' w' -> R t' w') : SA wr 50 t w R := by
 obtain ⟨e58,-⟩ := hj.vals _ (mv 47 rfl) (ready_bit hr (j := 47) rfl)
 obtain ⟨e60,-⟩ := hj.vals _ (mv 49 rfl) (ready_bit hr (j := 49) rfl)
 refine st50 e58 e60 ?_
 exact hj.hs.alc fun b w' h' => ⟨hpr _ (h'.at 1 rfl),hR _ _ _ (hj.make (mv 50 rfl) (show (50 : Nat) ∈ AL by decide) (show (50 : Nat) ≠ 51 by decide) (fun e => absurd e (show (50 : Nat) ≠ 45 by decide)) rfl (ready_new hr) (x := (some ⟨b,0,none⟩,2)) (pt_sl h' rfl (show (2 : Nat) <= maxLen by unfold maxLen; omega)))⟩
theorem g51 (hj : Jb W M bx q1 q2 x3 c3 bb L t w) (hr : readyB L (51,1161084278931456,false) = true) (hpr : PRk wr bx q1 q2) (hR : ∀ bb t' w',Jb W M bx q1 q2 x3 c3 bb (L ||| 2 ^ 51) t' w' -> R t' w') : SA wr 51 t w R := by
 refine st51 ?_
 exact hj.app (ready_bit hr (j := 45) rfl) (ready_bit hr (j := 50) rfl) (ready_new hr) (K := fun v w' => Pres wr w' /\ R (upd t 62 v) w') fun a c w' h' => ⟨hpr _ (h'.hs.at 0 rfl),hR _ _ _ h'⟩
theorem g52 (hj : Jb W M bx q1 q2 x3 c3 bb L t w) (hr : readyB L (52,2251799813685248,true) = true) (hR : ∀ bb t' w',Jb W M bx q1 q2 x3 c3 bb (L ||| 2 ^ 52) t' w' -> R t' w') : SA wr 52 t w R := by
 obtain ⟨e,-⟩ := hj.vals _ (mv 51 rfl) (ready_bit hr (j := 51) rfl)
 exact st52 e (hR _ _ _ (hj.still (mv 52 rfl) (show (52 : Nat) ∉ AL by decide) (.inr (ready_bit hr (j := 51) rfl)) (rfl)))
theorem g53 (hj : Jb W M bx q1 q2 x3 c3 bb L t w) (_ : readyB L (53,0,true) = true) (hld : LDk wr bx q1 q2) (hR : ∀ bb t' w',Jb W M bx q1 q2 x3 c3 bb (L ||| 2 ^ 53) t' w' -> R t' w') : SA wr 53 t w R := by
 exact st53 hj.t1 (hld _ (hR _ _ _ (hj.still (mv 53 rfl) (show (53 : Nat) ∉ AL by decide) (.inl rfl) (rfl))))
theorem g54 (hj : Jb W M bx q1 q2 x3 c3 bb L t w) (hr : readyB L (54,9007199254740992,true) = true) (hR : ∀ bb t' w',Jb W M bx q1 q2 x3 c3 bb (L ||| 2 ^ 54) t' w' -> R t' w') : SA wr 54 t w R := by
 obtain ⟨e,-⟩ := hj.vals _ (mv 53 rfl) (ready_bit hr (j := 53) rfl)
 exact st54 (hR _ _ _ (hj.still (mv 54 rfl) (show (54 : Nat) ∉ AL by decide) (.inl rfl) (by rw [e]; rfl)))
theorem g55 (hj : Jb W M bx q1 q2 x3 c3 bb L t w) (_ : readyB L (55,0,true) = true) (hld : LDk wr bx q1 q2) (hR : ∀ bb t' w',Jb W M bx q1 q2 x3 c3 bb (L ||| 2 ^ 55) t' w' -> R t' w') : SA wr 55 t w R := by
 exact st55 hj.t1 (hld _ (hR _ _ _ (hj.still (mv 55 rfl) (show (55 : Nat) ∉ AL by decide) (.inl rfl) (rfl))))
theorem g56 (hj : Jb W M bx q1 q2 x3 c3 bb L t w) (hr : readyB L (56,36028797018963968,true) = true) (hR : ∀ bb t' w',Jb W M bx q1 q2 x3 c3 bb (L ||| 2 ^ 56) t' w' -> R t' w') : SA wr 56 t w R := by
 obtain ⟨e,-⟩ := hj.vals _ (mv 55 rfl) (ready_bit hr (j := 55) rfl)
 exact st56 (hR _ _ _ (hj.still (mv 56 rfl) (show (56 : Nat) ∉ AL by decide) (.inl rfl) (by rw [e]; rfl)))
theorem g57 (hj : Jb W M bx q1 q2 x3 c3 bb L t w) (_ : readyB L (57,0,true) = true) (hld : LDk wr bx q1 q2) (hR : ∀ bb t' w',Jb W M bx q1 q2 x3 c3 bb (L ||| 2 ^ 57) t' w' -> R t' w') : SA wr 57 t w R := by
 exact st57 hj.t1 (hld _ (hR _ _ _ (hj.still (mv 57 rfl) (show (57 : Nat) ∉ AL by decide) (.inl rfl) (rfl))))
theorem g58 (hj : Jb W M bx q1 q2 x3 c3 bb L t w) (hr : readyB L (58,144115188075855872,true) = true) (hR : ∀ bb t' w',Jb W M bx q1 q2 x3 c3 bb (L ||| 2 ^ 58) t' w' -> R t' w') : SA wr 58 t w R := by
 obtain ⟨e,-⟩ := hj.vals _ (mv 57 rfl) (ready_bit hr (j := 57) rfl)
 exact st58 (hR _ _ _ (hj.still (mv 58 rfl) (show (58 : Nat) ∉ AL by decide) (.inl rfl) (by rw [e]; rfl)))
theorem g59 (hj : Jb W M bx q1 q2 x3 c3 bb L t w) (hr : readyB L (59,378302368699121664,false) = true) (hpr : PRk wr bx q1 q2) (hR : ∀ bb t' w',Jb W M bx q1 q2 x3 c3 bb (L ||| 2 ^ 59) t' w' -> R t' w') : SA wr 59 t w R := by
 obtain ⟨e65,-⟩ := hj.vals _ (mv 54 rfl) (ready_bit hr (j := 54) rfl)
 obtain ⟨e67,-⟩ := hj.vals _ (mv 56 rfl) (ready_bit hr (j := 56) rfl)
 obtain ⟨e69,-⟩ := hj.vals _ (mv 58 rfl) (ready_bit hr (j := 58) rfl)
 refine st59 e65 e67 e69 ?_
 exact hj.hs.alc fun b w' h' => ⟨hpr _ (h'.at 1 rfl),hR _ _ _ (hj.make (mv 59 rfl) (show (59 : Nat) ∈ AL by decide) (show (59 : Nat) ≠ 51 by decide) (fun e => absurd e (show (59 : Nat) ≠ 45 by decide)) rfl (ready_new hr) (x := (some ⟨b,0,none⟩,3)) (pt_sl h' rfl (show (3 : Nat) <= maxLen by unfold maxLen; omega)))⟩
theorem g60 (hj : Jb W M bx q1 q2 x3 c3 bb L t w) (hr : readyB L (60,576460752303423488,true) = true) (hR : ∀ bb t' w',Jb W M bx q1 q2 x3 c3 bb (L ||| 2 ^ 60) t' w' -> R t' w') : SA wr 60 t w R := by
 obtain ⟨e,-⟩ := hj.vals _ (mv 59 rfl) (ready_bit hr (j := 59) rfl)
 exact st60 e (hR _ _ _ (hj.still (mv 60 rfl) (show (60 : Nat) ∉ AL by decide) (.inr (ready_bit hr (j := 59) rfl)) (rfl)))
theorem g61 (hj : Jb W M bx q1 q2 x3 c3 bb L t w) (_ : readyB L (61,0,true) = true) (hld : LDk wr bx q1 q2) (hR : ∀ bb t' w',Jb W M bx q1 q2 x3 c3 bb (L ||| 2 ^ 61) t' w' -> R t' w') : SA wr 61 t w R := by
 exact st61 hj.t1 (hld _ (hR _ _ _ (hj.still (mv 61 rfl) (show (61 : Nat) ∉ AL by decide) (.inl rfl) (rfl))))
theorem g62 (hj : Jb W M bx q1 q2 x3 c3 bb L t w) (hr : readyB L (62,2305843009213693952,true) = true) (hR : ∀ bb t' w',Jb W M bx q1 q2 x3 c3 bb (L ||| 2 ^ 62) t' w' -> R t' w') : SA wr 62 t w R := by
 obtain ⟨e,-⟩ := hj.vals _ (mv 61 rfl) (ready_bit hr (j := 61) rfl)
 exact st62 (hR _ _ _ (hj.still (mv 62 rfl) (show (62 : Nat) ∉ AL by decide) (.inl rfl) (by rw [e]; rfl)))
theorem g63 (hj : Jb W M bx q1 q2 x3 c3 bb L t w) (hr : readyB L (63,4611686018427387904,false) = true) (hpr : PRk wr bx q1 q2) (hR : ∀ bb t' w',Jb W M bx q1 q2 x3 c3 bb (L ||| 2 ^ 63) t' w' -> R t' w') : SA wr 63 t w R := by
 obtain ⟨e73,-⟩ := hj.vals _ (mv 62 rfl) (ready_bit hr (j := 62) rfl)
 refine st63 e73 ?_
 exact hj.hs.alc fun b w' h' => ⟨hpr _ (h'.at 1 rfl),hR _ _ _ (hj.make (mv 63 rfl) (show (63 : Nat) ∈ AL by decide) (show (63 : Nat) ≠ 51 by decide) (fun e => absurd e (show (63 : Nat) ≠ 45 by decide)) rfl (ready_new hr) (x := (some ⟨b,0,none⟩,1)) (pt_sl h' rfl (show (1 : Nat) <= maxLen by unfold maxLen; omega)))⟩
theorem g64 (hj : Jb W M bx q1 q2 x3 c3 bb L t w) (hr : readyB L (64,9223372036854775808,true) = true) (hR : ∀ bb t' w',Jb W M bx q1 q2 x3 c3 bb (L ||| 2 ^ 64) t' w' -> R t' w') : SA wr 64 t w R := by
 obtain ⟨e,-⟩ := hj.vals _ (mv 63 rfl) (ready_bit hr (j := 63) rfl)
 exact st64 e (hR _ _ _ (hj.still (mv 64 rfl) (show (64 : Nat) ∉ AL by decide) (.inr (ready_bit hr (j := 63) rfl)) (rfl)))
theorem g65 (hj : Jb W M bx q1 q2 x3 c3 bb L t w) (_ : readyB L (65,0,true) = true) (hld : LDk wr bx q1 q2) (hR : ∀ bb t' w',Jb W M bx q1 q2 x3 c3 bb (L ||| 2 ^ 65) t' w' -> R t' w') : SA wr 65 t w R := by
 exact st65 hj.t1 (hld _ (hR _ _ _ (hj.still (mv 65 rfl) (show (65 : Nat) ∉ AL by decide) (.inl rfl) (rfl))))
theorem g66 (hj : Jb W M bx q1 q2 x3 c3 bb L t w) (hr : readyB L (66,36893488147419103232,true) = true) (hR : ∀ bb t' w',Jb W M bx q1 q2 x3 c3 bb (L ||| 2 ^ 66) t' w' -> R t' w') : SA wr 66 t w R := by
 obtain ⟨e,-⟩ := hj.vals _ (mv 65 rfl) (ready_bit hr (j := 65) rfl)
 exact st66 (hR _ _ _ (hj.still (mv 66 rfl) (show (66 : Nat) ∉ AL by decide) (.inl rfl) (by rw [e]; rfl)))
theorem g67 (hj : Jb W M bx q1 q2 x3 c3 bb L t w) (hr : readyB L (67,73786976294838206464,false) = true) (hpr : PRk wr bx q1 q2) (hR : ∀ bb t' w',Jb W M bx q1 q2 x3 c3 bb (L ||| 2 ^ 67) t' w' -> R t' w') : SA wr 67 t w R := by
 obtain ⟨e77,-⟩ := hj.vals _ (mv 66 rfl) (ready_bit hr (j := 66) rfl)
 refine st67 e77 ?_
 exact hj.hs.alc fun b w' h' => ⟨hpr _ (h'.at 1 rfl),hR _ _ _ (hj.make (mv 67 rfl) (show (67 : Nat) ∈ AL by decide) (show (67 : Nat) ≠ 51 by decide) (fun e => absurd e (show (67 : Nat) ≠ 45 by decide)) rfl (ready_new hr) (x := (some ⟨b,0,none⟩,1)) (pt_sl h' rfl (show (1 : Nat) <= maxLen by unfold maxLen; omega)))⟩
theorem g68 (hj : Jb W M bx q1 q2 x3 c3 bb L t w) (hr : readyB L (68,147573952589676412928,true) = true) (hR : ∀ bb t' w',Jb W M bx q1 q2 x3 c3 bb (L ||| 2 ^ 68) t' w' -> R t' w') : SA wr 68 t w R := by
 obtain ⟨e,-⟩ := hj.vals _ (mv 67 rfl) (ready_bit hr (j := 67) rfl)
 exact st68 e (hR _ _ _ (hj.still (mv 68 rfl) (show (68 : Nat) ∉ AL by decide) (.inr (ready_bit hr (j := 67) rfl)) (rfl)))
end
end Go.Proofs.YtilenpnpnbdndaaGreatDoor
