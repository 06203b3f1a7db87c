/- Own text: part of the shallow reading of the code and of the contracts that are proved over it. -/
import Derived.Test.YtilenpnpnbdndaaGreatDoorShDf
import Derived.Test.YtilenpnpnbdndaaGreatDoorShAn
import Derived.KernelRfl
import Derived.Test.YtilenpnpnbdndaaGreatDoorShO
namespace Go.Proofs.YtilenpnpnbdndaaGreatDoor
open Go Go.Sh
set_option maxRecDepth 100000
attribute [local instance] Esc.none
noncomputable def F48_code : Code := Tryz.f48.body.getD .skip
noncomputable def ops48 : Array Oper := match getAt F48_code [0,1,1] with | .region _ ops _ => ops | _ => #[]
noncomputable def ms48 : List Go.Sh.It := marked Tryz.prog ops48.toList
noncomputable def D48 : List (Nat × Nat × Bool) := dlist Tryz.prog ms48
noncomputable abbrev SA (wr : World) (i : Nat) (t : Tm) (w : World) (R : Tm -> World -> Prop) : Prop := stepAt Tryz.prog ops48.toList wr ms48 i t w R
theorem st0 {t : Tm} {w wr : World} {R : Tm -> World -> Prop} {a : Addr} (h1 : t 1 = .pointer (some a)) (h : ldP (a.add 0) wr fun p => ldP (a.add 1) wr fun q => R (upd t 11 (.agg #[.pointer p,.pointer q])) w) : SA wr 0 t w R := by
 obtain ⟨s,rfl⟩ : ∃ s,t = (upd s 1 (.pointer (some a))) := ⟨t,by rw [upd_same t 1 h1]⟩
 exact Eq.mp (by kernel_rfl) h
theorem st1 {t : Tm} {w wr : World} {R : Tm -> World -> Prop}   (h : R (upd t 12 (.func (.func 69) #[t 11] #[])) w) : SA wr 1 t w R := by
 exact Eq.mp (by kernel_rfl) h
theorem st2 {t : Tm} {w wr : World} {R : Tm -> World -> Prop} {x12 : Value} (h12 : t 12 = .func (.func 69) #[x12] #[]) (h : alc (.cells #[.func (.func 69) #[x12] #[]] 1) w fun b w' => Pres wr w' /\ R (upd t 13 (.slice (some (Addr.mk b 0 none)) 1 1)) w') : SA wr 2 t w R := by
 obtain ⟨s,rfl⟩ : ∃ s,t = (upd s 12 (.func (.func 69) #[x12] #[])) := ⟨t,by rw [upd_same t 12 h12]⟩
 exact Eq.mp (by kernel_rfl) h
theorem st3 {t : Tm} {w wr : World} {R : Tm -> World -> Prop} {x : Option Addr} {n c : Nat} (h13 : t 13 = .slice x n c) (h : R (upd t 14 (.agg #[.int .i64 1,.string ⟨#[111,112,101,110]⟩,.slice x n c])) w) : SA wr 3 t w R := by
 obtain ⟨s,rfl⟩ : ∃ s,t = (upd s 13 (.slice x n c)) := ⟨t,by rw [upd_same t 13 h13]⟩
 exact Eq.mp (by kernel_rfl) h
theorem st4 {t : Tm} {w wr : World} {R : Tm -> World -> Prop} {a : Addr} (h1 : t 1 = .pointer (some a)) (h : ldP (a.add 0) wr fun p => ldP (a.add 1) wr fun q => R (upd t 15 (.agg #[.pointer p,.pointer q])) w) : SA wr 4 t w R := by
 obtain ⟨s,rfl⟩ : ∃ s,t = (upd s 1 (.pointer (some a))) := ⟨t,by rw [upd_same t 1 h1]⟩
 exact Eq.mp (by kernel_rfl) h
theorem st5 {t : Tm} {w wr : World} {R : Tm -> World -> Prop}   (h : R (upd t 16 (.func (.func 69) #[t 15] #[])) w) : SA wr 5 t w R := by
 exact Eq.mp (by kernel_rfl) h
theorem st6 {t : Tm} {w wr : World} {R : Tm -> World -> Prop} {a : Addr} (h1 : t 1 = .pointer (some a)) (h : ldP (a.add 0) wr fun p => ldP (a.add 1) wr fun q => R (upd t 17 (.agg #[.pointer p,.pointer q])) w) : SA wr 6 t w R := by
 obtain ⟨s,rfl⟩ : ∃ s,t = (upd s 1 (.pointer (some a))) := ⟨t,by rw [upd_same t 1 h1]⟩
 exact Eq.mp (by kernel_rfl) h
theorem st7 {t : Tm} {w wr : World} {R : Tm -> World -> Prop}   (h : R (upd t 18 (.func (.func 72) #[t 17] #[])) w) : SA wr 7 t w R := by
 exact Eq.mp (by kernel_rfl) h
theorem st8 {t : Tm} {w wr : World} {R : Tm -> World -> Prop} {a : Addr} (h1 : t 1 = .pointer (some a)) (h : ldP (a.add 0) wr fun p => ldP (a.add 1) wr fun q => R (upd t 19 (.agg #[.pointer p,.pointer q])) w) : SA wr 8 t w R := by
 obtain ⟨s,rfl⟩ : ∃ s,t = (upd s 1 (.pointer (some a))) := ⟨t,by rw [upd_same t 1 h1]⟩
 exact Eq.mp (by kernel_rfl) h
theorem st9 {t : Tm} {w wr : World} {R : Tm -> World -> Prop}   (h : R (upd t 20 (.func (.func 73) #[t 19] #[])) w) : SA wr 9 t w R := by
 exact Eq.mp (by kernel_rfl) h
theorem st10 {t : Tm} {w wr : World} {R : Tm -> World -> Prop} {a : Addr} (h1 : t 1 = .pointer (some a)) (h : ldP (a.add 0) wr fun p => ldP (a.add 1) wr fun q => R (upd t 21 (.agg #[.pointer p,.pointer q])) w) : SA wr 10 t w R := by
 obtain ⟨s,rfl⟩ : ∃ s,t = (upd s 1 (.pointer (some a))) := ⟨t,by rw [upd_same t 1 h1]⟩
 exact Eq.mp (by kernel_rfl) h
theorem st11 {t : Tm} {w wr : World} {R : Tm -> World -> Prop}   (h : R (upd t 22 (.func (.func 74) #[t 21] #[])) w) : SA wr 11 t w R := by
 exact Eq.mp (by kernel_rfl) h
theorem st12 {t : Tm} {w wr : World} {R : Tm -> World -> Prop} {a : Addr} (h1 : t 1 = .pointer (some a)) (h : ldP (a.add 0) wr fun p => ldP (a.add 1) wr fun q => R (upd t 23 (.agg #[.pointer p,.pointer q])) w) : SA wr 12 t w R := by
 obtain ⟨s,rfl⟩ : ∃ s,t = (upd s 1 (.pointer (some a))) := ⟨t,by rw [upd_same t 1 h1]⟩
 exact Eq.mp (by kernel_rfl) h
theorem st13 {t : Tm} {w wr : World} {R : Tm -> World -> Prop}   (h : R (upd t 24 (.func (.func 75) #[t 23] #[])) w) : SA wr 13 t w R := by
 exact Eq.mp (by kernel_rfl) h
theorem st14 {t : Tm} {w wr : World} {R : Tm -> World -> Prop} {x16 x18 x20 x22 x24 : Value} (h16 : t 16 = .func (.func 69) #[x16] #[]) (h18 : t 18 = .func (.func 72) #[x18] #[]) (h20 : t 20 = .func (.func 73) #[x20] #[]) (h22 : t 22 = .func (.func 74) #[x22] #[]) (h24 : t 24 = .func (.func 75) #[x24] #[]) (h : alc (.cells #[.func (.func 69) #[x16] #[],.func (.func 72) #[x18] #[],.func (.func 73) #[x20] #[],.func (.func 74) #[x22] #[],.func (.func 75) #[x24] #[]] 1) w fun b w' => Pres wr w' /\ R (upd t 25 (.slice (some (Addr.mk b 0 none)) 5 5)) w') : SA wr 14 t w R := by
 obtain ⟨s,rfl⟩ : ∃ s,t = (upd (upd (upd (upd (upd s 16 (.func (.func 69) #[x16] #[])) 18 (.func (.func 72) #[x18] #[])) 20 (.func (.func 73) #[x20] #[])) 22 (.func (.func 74) #[x22] #[])) 24 (.func (.func 75) #[x24] #[])) := ⟨t,by rw [upd_same t 16 h16,upd_same t 18 h18,upd_same t 20 h20,upd_same t 22 h22,upd_same t 24 h24]⟩
 exact Eq.mp (by kernel_rfl) h
theorem st15 {t : Tm} {w wr : World} {R : Tm -> World -> Prop} {x : Option Addr} {n c : Nat} (h25 : t 25 = .slice x n c) (h : R (upd t 26 (.agg #[.int .i64 2,.string ⟨#[115,101,110,100]⟩,.slice x n c])) w) : SA wr 15 t w R := by
 obtain ⟨s,rfl⟩ : ∃ s,t = (upd s 25 (.slice x n c)) := ⟨t,by rw [upd_same t 25 h25]⟩
 exact Eq.mp (by kernel_rfl) h
theorem st16 {t : Tm} {w wr : World} {R : Tm -> World -> Prop} {a : Addr} (h1 : t 1 = .pointer (some a)) (h : ldP (a.add 0) wr fun p => ldP (a.add 1) wr fun q => R (upd t 27 (.agg #[.pointer p,.pointer q])) w) : SA wr 16 t w R := by
 obtain ⟨s,rfl⟩ : ∃ s,t = (upd s 1 (.pointer (some a))) := ⟨t,by rw [upd_same t 1 h1]⟩
 exact Eq.mp (by kernel_rfl) h
theorem st17 {t : Tm} {w wr : World} {R : Tm -> World -> Prop}   (h : R (upd t 28 (.func (.func 69) #[t 27] #[])) w) : SA wr 17 t w R := by
 exact Eq.mp (by kernel_rfl) h
theorem st18 {t : Tm} {w wr : World} {R : Tm -> World -> Prop} {x28 : Value} (h28 : t 28 = .func (.func 69) #[x28] #[]) (h : alc (.cells #[.func (.func 69) #[x28] #[]] 1) w fun b w' => Pres wr w' /\ R (upd t 29 (.slice (some (Addr.mk b 0 none)) 1 1)) w') : SA wr 18 t w R := by
 obtain ⟨s,rfl⟩ : ∃ s,t = (upd s 28 (.func (.func 69) #[x28] #[])) := ⟨t,by rw [upd_same t 28 h28]⟩
 exact Eq.mp (by kernel_rfl) h
theorem st19 {t : Tm} {w wr : World} {R : Tm -> World -> Prop} {x : Option Addr} {n c : Nat} (h29 : t 29 = .slice x n c) (h : R (upd t 30 (.agg #[.int .i64 3,.string ⟨#[114,101,99,101,105,118,101]⟩,.slice x n c])) w) : SA wr 19 t w R := by
 obtain ⟨s,rfl⟩ : ∃ s,t = (upd s 29 (.slice x n c)) := ⟨t,by rw [upd_same t 29 h29]⟩
 exact Eq.mp (by kernel_rfl) h
theorem st20 {t : Tm} {w wr : World} {R : Tm -> World -> Prop} {a : Addr} (h1 : t 1 = .pointer (some a)) (h : ldP (a.add 0) wr fun p => ldP (a.add 1) wr fun q => R (upd t 31 (.agg #[.pointer p,.pointer q])) w) : SA wr 20 t w R := by
 obtain ⟨s,rfl⟩ : ∃ s,t = (upd s 1 (.pointer (some a))) := ⟨t,by rw [upd_same t 1 h1]⟩
 exact Eq.mp (by kernel_rfl) h
theorem st21 {t : Tm} {w wr : World} {R : Tm -> World -> Prop}   (h : R (upd t 32 (.func (.func 69) #[t 31] #[])) w) : SA wr 21 t w R := by
 exact Eq.mp (by kernel_rfl) h
theorem st22 {t : Tm} {w wr : World} {R : Tm -> World -> Prop} {x32 : Value} (h32 : t 32 = .func (.func 69) #[x32] #[]) (h : alc (.cells #[.func (.func 69) #[x32] #[]] 1) w fun b w' => Pres wr w' /\ R (upd t 33 (.slice (some (Addr.mk b 0 none)) 1 1)) w') : SA wr 22 t w R := by
 obtain ⟨s,rfl⟩ : ∃ s,t = (upd s 32 (.func (.func 69) #[x32] #[])) := ⟨t,by rw [upd_same t 32 h32]⟩
 exact Eq.mp (by kernel_rfl) h
theorem st23 {t : Tm} {w wr : World} {R : Tm -> World -> Prop} {x : Option Addr} {n c : Nat} (h33 : t 33 = .slice x n c) (h : R (upd t 34 (.agg #[.int .i64 4,.string ⟨#[115,104,117,116,100,111,119,110]⟩,.slice x n c])) w) : SA wr 23 t w R := by
 obtain ⟨s,rfl⟩ : ∃ s,t = (upd s 33 (.slice x n c)) := ⟨t,by rw [upd_same t 33 h33]⟩
 exact Eq.mp (by kernel_rfl) h
theorem st24 {t : Tm} {w wr : World} {R : Tm -> World -> Prop} {a : Addr} (h1 : t 1 = .pointer (some a)) (h : ldP (a.add 0) wr fun p => ldP (a.add 1) wr fun q => R (upd t 35 (.agg #[.pointer p,.pointer q])) w) : SA wr 24 t w R := by
 obtain ⟨s,rfl⟩ : ∃ s,t = (upd s 1 (.pointer (some a))) := ⟨t,by rw [upd_same t 1 h1]⟩
 exact Eq.mp (by kernel_rfl) h
theorem st25 {t : Tm} {w wr : World} {R : Tm -> World -> Prop}   (h : R (upd t 36 (.func (.func 69) #[t 35] #[])) w) : SA wr 25 t w R := by
 exact Eq.mp (by kernel_rfl) h
theorem st26 {t : Tm} {w wr : World} {R : Tm -> World -> Prop} {a : Addr} (h1 : t 1 = .pointer (some a)) (h : ldP (a.add 0) wr fun p => ldP (a.add 1) wr fun q => R (upd t 37 (.agg #[.pointer p,.pointer q])) w) : SA wr 26 t w R := by
 obtain ⟨s,rfl⟩ : ∃ s,t = (upd s 1 (.pointer (some a))) := ⟨t,by rw [upd_same t 1 h1]⟩
 exact Eq.mp (by kernel_rfl) h
theorem st27 {t : Tm} {w wr : World} {R : Tm -> World -> Prop}   (h : R (upd t 38 (.func (.func 76) #[t 37] #[])) w) : SA wr 27 t w R := by
 exact Eq.mp (by kernel_rfl) h
theorem st28 {t : Tm} {w wr : World} {R : Tm -> World -> Prop} {x36 x38 : Value} (h36 : t 36 = .func (.func 69) #[x36] #[]) (h38 : t 38 = .func (.func 76) #[x38] #[]) (h : alc (.cells #[.func (.func 69) #[x36] #[],.func (.func 76) #[x38] #[]] 1) w fun b w' => Pres wr w' /\ R (upd t 39 (.slice (some (Addr.mk b 0 none)) 2 2)) w') : SA wr 28 t w R := by
 obtain ⟨s,rfl⟩ : ∃ s,t = (upd (upd s 36 (.func (.func 69) #[x36] #[])) 38 (.func (.func 76) #[x38] #[])) := ⟨t,by rw [upd_same t 36 h36,upd_same t 38 h38]⟩
 exact Eq.mp (by kernel_rfl) h
theorem st29 {t : Tm} {w wr : World} {R : Tm -> World -> Prop} {x : Option Addr} {n c : Nat} (h39 : t 39 = .slice x n c) (h : R (upd t 40 (.agg #[.int .i64 5,.string ⟨#[97,98,111,114,116]⟩,.slice x n c])) w) : SA wr 29 t w R := by
 obtain ⟨s,rfl⟩ : ∃ s,t = (upd s 39 (.slice x n c)) := ⟨t,by rw [upd_same t 39 h39]⟩
 exact Eq.mp (by kernel_rfl) h
theorem st30 {t : Tm} {w wr : World} {R : Tm -> World -> Prop} {a : Addr} (h1 : t 1 = .pointer (some a)) (h : ldP (a.add 0) wr fun p => ldP (a.add 1) wr fun q => R (upd t 41 (.agg #[.pointer p,.pointer q])) w) : SA wr 30 t w R := by
 obtain ⟨s,rfl⟩ : ∃ s,t = (upd s 1 (.pointer (some a))) := ⟨t,by rw [upd_same t 1 h1]⟩
 exact Eq.mp (by kernel_rfl) h
theorem st31 {t : Tm} {w wr : World} {R : Tm -> World -> Prop}   (h : R (upd t 42 (.func (.func 69) #[t 41] #[])) w) : SA wr 31 t w R := by
 exact Eq.mp (by kernel_rfl) h
theorem st32 {t : Tm} {w wr : World} {R : Tm -> World -> Prop} {x42 : Value} (h42 : t 42 = .func (.func 69) #[x42] #[]) (h : alc (.cells #[.func (.func 69) #[x42] #[]] 1) w fun b w' => Pres wr w' /\ R (upd t 43 (.slice (some (Addr.mk b 0 none)) 1 1)) w') : SA wr 32 t w R := by
 obtain ⟨s,rfl⟩ : ∃ s,t = (upd s 42 (.func (.func 69) #[x42] #[])) := ⟨t,by rw [upd_same t 42 h42]⟩
 exact Eq.mp (by kernel_rfl) h
theorem st33 {t : Tm} {w wr : World} {R : Tm -> World -> Prop} {x : Option Addr} {n c : Nat} (h43 : t 43 = .slice x n c) (h : R (upd t 44 (.agg #[.int .i64 6,.string ⟨#[116,105,99,107]⟩,.slice x n c])) w) : SA wr 33 t w R := by
 obtain ⟨s,rfl⟩ : ∃ s,t = (upd s 43 (.slice x n c)) := ⟨t,by rw [upd_same t 43 h43]⟩
 exact Eq.mp (by kernel_rfl) h
theorem st34 {t : Tm} {w wr : World} {R : Tm -> World -> Prop} {a : Addr} (h1 : t 1 = .pointer (some a)) (h : ldP (a.add 0) wr fun p => ldP (a.add 1) wr fun q => R (upd t 45 (.agg #[.pointer p,.pointer q])) w) : SA wr 34 t w R := by
 obtain ⟨s,rfl⟩ : ∃ s,t = (upd s 1 (.pointer (some a))) := ⟨t,by rw [upd_same t 1 h1]⟩
 exact Eq.mp (by kernel_rfl) h
theorem st35 {t : Tm} {w wr : World} {R : Tm -> World -> Prop}   (h : R (upd t 46 (.func (.func 77) #[t 45] #[])) w) : SA wr 35 t w R := by
 exact Eq.mp (by kernel_rfl) h
theorem st36 {t : Tm} {w wr : World} {R : Tm -> World -> Prop} {x46 : Value} (h46 : t 46 = .func (.func 77) #[x46] #[]) (h : alc (.cells #[.func (.func 77) #[x46] #[]] 1) w fun b w' => Pres wr w' /\ R (upd t 47 (.slice (some (Addr.mk b 0 none)) 1 1)) w') : SA wr 36 t w R := by
 obtain ⟨s,rfl⟩ : ∃ s,t = (upd s 46 (.func (.func 77) #[x46] #[])) := ⟨t,by rw [upd_same t 46 h46]⟩
 exact Eq.mp (by kernel_rfl) h
theorem st37 {t : Tm} {w wr : World} {R : Tm -> World -> Prop} {x : Option Addr} {n c : Nat} (h47 : t 47 = .slice x n c) (h : R (upd t 48 (.agg #[.int .i64 7,.string ⟨#[99,108,111,99,107]⟩,.slice x n c])) w) : SA wr 37 t w R := by
 obtain ⟨s,rfl⟩ : ∃ s,t = (upd s 47 (.slice x n c)) := ⟨t,by rw [upd_same t 47 h47]⟩
 exact Eq.mp (by kernel_rfl) h
theorem st38 {t : Tm} {w wr : World} {R : Tm -> World -> Prop}   (h : R (upd t 49 (t 3)) w) : SA wr 38 t w R := by
 exact Eq.mp (by kernel_rfl) h
theorem st39 {t : Tm} {w wr : World} {R : Tm -> World -> Prop} {x : Option Addr} {n c : Nat} (h49 : t 49 = .slice x n c) (h : R (upd t 50 (.agg #[.int .i64 8,.string ⟨#[100,101,108,105,118,101,114]⟩,.slice x n c])) w) : SA wr 39 t w R := by
 obtain ⟨s,rfl⟩ : ∃ s,t = (upd s 49 (.slice x n c)) := ⟨t,by rw [upd_same t 49 h49]⟩
 exact Eq.mp (by kernel_rfl) h
theorem st40 {t : Tm} {w wr : World} {R : Tm -> World -> Prop}   (h : R (upd t 51 (t 3)) w) : SA wr 40 t w R := by
 exact Eq.mp (by kernel_rfl) h
theorem st41 {t : Tm} {w wr : World} {R : Tm -> World -> Prop} {x : Option Addr} {n c : Nat} (h51 : t 51 = .slice x n c) (h : R (upd t 52 (.agg #[.int .i64 9,.string ⟨#[100,114,111,112]⟩,.slice x n c])) w) : SA wr 41 t w R := by
 obtain ⟨s,rfl⟩ : ∃ s,t = (upd s 51 (.slice x n c)) := ⟨t,by rw [upd_same t 51 h51]⟩
 exact Eq.mp (by kernel_rfl) h
theorem st42 {t : Tm} {w wr : World} {R : Tm -> World -> Prop}   (h : R (upd t 53 (t 3)) w) : SA wr 42 t w R := by
 exact Eq.mp (by kernel_rfl) h
theorem st43 {t : Tm} {w wr : World} {R : Tm -> World -> Prop} {x : Option Addr} {n c : Nat} (h53 : t 53 = .slice x n c) (h : R (upd t 54 (.agg #[.int .i64 10,.string ⟨#[116,119,105,99,101]⟩,.slice x n c])) w) : SA wr 43 t w R := by
 obtain ⟨s,rfl⟩ : ∃ s,t = (upd s 53 (.slice x n c)) := ⟨t,by rw [upd_same t 53 h53]⟩
 exact Eq.mp (by kernel_rfl) h
theorem st44 {t : Tm} {w wr : World} {R : Tm -> World -> Prop}   (h : R (upd t 55 (t 3)) w) : SA wr 44 t w R := by
 exact Eq.mp (by kernel_rfl) h
theorem st45 {t : Tm} {w wr : World} {R : Tm -> World -> Prop}   (h : Calls Tryz.prog 78 #[t 55] w (en fun e w' => ∃ x n c,e = .returned (.slice x n c) /\ Pres wr w' /\ R (upd t 56 (.slice x n c)) w')) : SA wr 45 t w R := by
 exact Eq.mp (by kernel_rfl) h
theorem st46 {t : Tm} {w wr : World} {R : Tm -> World -> Prop} {a : Addr} (h1 : t 1 = .pointer (some a)) (h : ldP (a.add 0) wr fun p => ldP (a.add 1) wr fun q => R (upd t 57 (.agg #[.pointer p,.pointer q])) w) : SA wr 46 t w R := by
 obtain ⟨s,rfl⟩ : ∃ s,t = (upd s 1 (.pointer (some a))) := ⟨t,by rw [upd_same t 1 h1]⟩
 exact Eq.mp (by kernel_rfl) h
theorem st47 {t : Tm} {w wr : World} {R : Tm -> World -> Prop}   (h : R (upd t 58 (.func (.func 79) #[t 57] #[])) w) : SA wr 47 t w R := by
 exact Eq.mp (by kernel_rfl) h
theorem st48 {t : Tm} {w wr : World} {R : Tm -> World -> Prop} {a : Addr} (h1 : t 1 = .pointer (some a)) (h : ldP (a.add 0) wr fun p => ldP (a.add 1) wr fun q => R (upd t 59 (.agg #[.pointer p,.pointer q])) w) : SA wr 48 t w R := by
 obtain ⟨s,rfl⟩ : ∃ s,t = (upd s 1 (.pointer (some a))) := ⟨t,by rw [upd_same t 1 h1]⟩
 exact Eq.mp (by kernel_rfl) h
theorem st49 {t : Tm} {w wr : World} {R : Tm -> World -> Prop}   (h : R (upd t 60 (.func (.func 80) #[t 59] #[])) w) : SA wr 49 t w R := by
 exact Eq.mp (by kernel_rfl) h
theorem st50 {t : Tm} {w wr : World} {R : Tm -> World -> Prop} {x58 x60 : Value} (h58 : t 58 = .func (.func 79) #[x58] #[]) (h60 : t 60 = .func (.func 80) #[x60] #[]) (h : alc (.cells #[.func (.func 79) #[x58] #[],.func (.func 80) #[x60] #[]] 1) w fun b w' => Pres wr w' /\ R (upd t 61 (.slice (some (Addr.mk b 0 none)) 2 2)) w') : SA wr 50 t w R := by
 obtain ⟨s,rfl⟩ : ∃ s,t = (upd (upd s 58 (.func (.func 79) #[x58] #[])) 60 (.func (.func 80) #[x60] #[])) := ⟨t,by rw [upd_same t 58 h58,upd_same t 60 h60]⟩
 exact Eq.mp (by kernel_rfl) h
theorem st51 {t : Tm} {w wr : World} {R : Tm -> World -> Prop}   (h : ∃ x n c w',Sem.run Tryz.prog (Builtin.append_ #[84,84] 84 #[t 56,t 61]) w = .ok (.slice x n c) w' /\ Pres wr w' /\ R (upd t 62 (.slice x n c)) w') : SA wr 51 t w R := by
 exact Eq.mp (by kernel_rfl) h
theorem st52 {t : Tm} {w wr : World} {R : Tm -> World -> Prop} {x : Option Addr} {n c : Nat} (h62 : t 62 = .slice x n c) (h : R (upd t 63 (.agg #[.int .i64 11,.string ⟨#[115,112,111,105,108]⟩,.slice x n c])) w) : SA wr 52 t w R := by
 obtain ⟨s,rfl⟩ : ∃ s,t = (upd s 62 (.slice x n c)) := ⟨t,by rw [upd_same t 62 h62]⟩
 exact Eq.mp (by kernel_rfl) h
theorem st53 {t : Tm} {w wr : World} {R : Tm -> World -> Prop} {a : Addr} (h1 : t 1 = .pointer (some a)) (h : ldP (a.add 0) wr fun p => ldP (a.add 1) wr fun q => R (upd t 64 (.agg #[.pointer p,.pointer q])) w) : SA wr 53 t w R := by
 obtain ⟨s,rfl⟩ : ∃ s,t = (upd s 1 (.pointer (some a))) := ⟨t,by rw [upd_same t 1 h1]⟩
 exact Eq.mp (by kernel_rfl) h
theorem st54 {t : Tm} {w wr : World} {R : Tm -> World -> Prop}   (h : R (upd t 65 (.func (.func 69) #[t 64] #[])) w) : SA wr 54 t w R := by
 exact Eq.mp (by kernel_rfl) h
theorem st55 {t : Tm} {w wr : World} {R : Tm -> World -> Prop} {a : Addr} (h1 : t 1 = .pointer (some a)) (h : ldP (a.add 0) wr fun p => ldP (a.add 1) wr fun q => R (upd t 66 (.agg #[.pointer p,.pointer q])) w) : SA wr 55 t w R := by
 obtain ⟨s,rfl⟩ : ∃ s,t = (upd s 1 (.pointer (some a))) := ⟨t,by rw [upd_same t 1 h1]⟩
 exact Eq.mp (by kernel_rfl) h
theorem st56 {t : Tm} {w wr : World} {R : Tm -> World -> Prop}   (h : R (upd t 67 (.func (.func 70) #[t 66] #[])) w) : SA wr 56 t w R := by
 exact Eq.mp (by kernel_rfl) h
theorem st57 {t : Tm} {w wr : World} {R : Tm -> World -> Prop} {a : Addr} (h1 : t 1 = .pointer (some a)) (h : ldP (a.add 0) wr fun p => ldP (a.add 1) wr fun q => R (upd t 68 (.agg #[.pointer p,.pointer q])) w) : SA wr 57 t w R := by
 obtain ⟨s,rfl⟩ : ∃ s,t = (upd s 1 (.pointer (some a))) := ⟨t,by rw [upd_same t 1 h1]⟩
 exact Eq.mp (by kernel_rfl) h
theorem st58 {t : Tm} {w wr : World} {R : Tm -> World -> Prop}   (h : R (upd t 69 (.func (.func 75) #[t 68] #[])) w) : SA wr 58 t w R := by
 exact Eq.mp (by kernel_rfl) h
theorem st59 {t : Tm} {w wr : World} {R : Tm -> World -> Prop} {x65 x67 x69 : Value} (h65 : t 65 = .func (.func 69) #[x65] #[]) (h67 : t 67 = .func (.func 70) #[x67] #[]) (h69 : t 69 = .func (.func 75) #[x69] #[]) (h : alc (.cells #[.func (.func 69) #[x65] #[],.func (.func 70) #[x67] #[],.func (.func 75) #[x69] #[]] 1) w fun b w' => Pres wr w' /\ R (upd t 70 (.slice (some (Addr.mk b 0 none)) 3 3)) w') : SA wr 59 t w R := by
 obtain ⟨s,rfl⟩ : ∃ s,t = (upd (upd (upd s 65 (.func (.func 69) #[x65] #[])) 67 (.func (.func 70) #[x67] #[])) 69 (.func (.func 75) #[x69] #[])) := ⟨t,by rw [upd_same t 65 h65,upd_same t 67 h67,upd_same t 69 h69]⟩
 exact Eq.mp (by kernel_rfl) h
theorem st60 {t : Tm} {w wr : World} {R : Tm -> World -> Prop} {x : Option Addr} {n c : Nat} (h70 : t 70 = .slice x n c) (h : R (upd t 71 (.agg #[.int .i64 12,.string ⟨#[102,111,114,103,101]⟩,.slice x n c])) w) : SA wr 60 t w R := by
 obtain ⟨s,rfl⟩ : ∃ s,t = (upd s 70 (.slice x n c)) := ⟨t,by rw [upd_same t 70 h70]⟩
 exact Eq.mp (by kernel_rfl) h
theorem st61 {t : Tm} {w wr : World} {R : Tm -> World -> Prop} {a : Addr} (h1 : t 1 = .pointer (some a)) (h : ldP (a.add 0) wr fun p => ldP (a.add 1) wr fun q => R (upd t 72 (.agg #[.pointer p,.pointer q])) w) : SA wr 61 t w R := by
 obtain ⟨s,rfl⟩ : ∃ s,t = (upd s 1 (.pointer (some a))) := ⟨t,by rw [upd_same t 1 h1]⟩
 exact Eq.mp (by kernel_rfl) h
theorem st62 {t : Tm} {w wr : World} {R : Tm -> World -> Prop}   (h : R (upd t 73 (.func (.func 70) #[t 72] #[])) w) : SA wr 62 t w R := by
 exact Eq.mp (by kernel_rfl) h
theorem st63 {t : Tm} {w wr : World} {R : Tm -> World -> Prop} {x73 : Value} (h73 : t 73 = .func (.func 70) #[x73] #[]) (h : alc (.cells #[.func (.func 70) #[x73] #[]] 1) w fun b w' => Pres wr w' /\ R (upd t 74 (.slice (some (Addr.mk b 0 none)) 1 1)) w') : SA wr 63 t w R := by
 obtain ⟨s,rfl⟩ : ∃ s,t = (upd s 73 (.func (.func 70) #[x73] #[])) := ⟨t,by rw [upd_same t 73 h73]⟩
 exact Eq.mp (by kernel_rfl) h
theorem st64 {t : Tm} {w wr : World} {R : Tm -> World -> Prop} {x : Option Addr} {n c : Nat} (h74 : t 74 = .slice x n c) (h : R (upd t 75 (.agg #[.int .i64 13,.string ⟨#[100,111,119,110]⟩,.slice x n c])) w) : SA wr 64 t w R := by
 obtain ⟨s,rfl⟩ : ∃ s,t = (upd s 74 (.slice x n c)) := ⟨t,by rw [upd_same t 74 h74]⟩
 exact Eq.mp (by kernel_rfl) h
theorem st65 {t : Tm} {w wr : World} {R : Tm -> World -> Prop} {a : Addr} (h1 : t 1 = .pointer (some a)) (h : ldP (a.add 0) wr fun p => ldP (a.add 1) wr fun q => R (upd t 76 (.agg #[.pointer p,.pointer q])) w) : SA wr 65 t w R := by
 obtain ⟨s,rfl⟩ : ∃ s,t = (upd s 1 (.pointer (some a))) := ⟨t,by rw [upd_same t 1 h1]⟩
 exact Eq.mp (by kernel_rfl) h
theorem st66 {t : Tm} {w wr : World} {R : Tm -> World -> Prop}   (h : R (upd t 77 (.func (.func 70) #[t 76] #[])) w) : SA wr 66 t w R := by
 exact Eq.mp (by kernel_rfl) h
theorem st67 {t : Tm} {w wr : World} {R : Tm -> World -> Prop} {x77 : Value} (h77 : t 77 = .func (.func 70) #[x77] #[]) (h : alc (.cells #[.func (.func 70) #[x77] #[]] 1) w fun b w' => Pres wr w' /\ R (upd t 78 (.slice (some (Addr.mk b 0 none)) 1 1)) w') : SA wr 67 t w R := by
 obtain ⟨s,rfl⟩ : ∃ s,t = (upd s 77 (.func (.func 70) #[x77] #[])) := ⟨t,by rw [upd_same t 77 h77]⟩
 exact Eq.mp (by kernel_rfl) h
theorem st68 {t : Tm} {w wr : World} {R : Tm -> World -> Prop} {x : Option Addr} {n c : Nat} (h78 : t 78 = .slice x n c) (h : R (upd t 79 (.agg #[.int .i64 14,.string ⟨#[117,112]⟩,.slice x n c])) w) : SA wr 68 t w R := by
 obtain ⟨s,rfl⟩ : ∃ s,t = (upd s 78 (.slice x n c)) := ⟨t,by rw [upd_same t 78 h78]⟩
 exact Eq.mp (by kernel_rfl) h
theorem st69 {t : Tm} {w wr : World} {R : Tm -> World -> Prop} {x14 x26 x30 x34 x40 x44 x48 x50 x52 x54 x63 x71 x75 x79 : Option Addr} {n14 c14 n26 c26 n30 c30 n34 c34 n40 c40 n44 c44 n48 c48 n50 c50 n52 c52 n54 c54 n63 c63 n71 c71 n75 c75 n79 c79 : Nat} (h14 : t 14 = .agg #[.int .i64 1,.string ⟨#[111,112,101,110]⟩,.slice x14 n14 c14]) (h26 : t 26 = .agg #[.int .i64 2,.string ⟨#[115,101,110,100]⟩,.slice x26 n26 c26]) (h30 : t 30 = .agg #[.int .i64 3,.string ⟨#[114,101,99,101,105,118,101]⟩,.slice x30 n30 c30]) (h34 : t 34 = .agg #[.int .i64 4,.string ⟨#[115,104,117,116,100,111,119,110]⟩,.slice x34 n34 c34]) (h40 : t 40 = .agg #[.int .i64 5,.string ⟨#[97,98,111,114,116]⟩,.slice x40 n40 c40]) (h44 : t 44 = .agg #[.int .i64 6,.string ⟨#[116,105,99,107]⟩,.slice x44 n44 c44]) (h48 : t 48 = .agg #[.int .i64 7,.string ⟨#[99,108,111,99,107]⟩,.slice x48 n48 c48]) (h50 : t 50 = .agg #[.int .i64 8,.string ⟨#[100,101,108,105,118,101,114]⟩,.slice x50 n50 c50]) (h52 : t 52 = .agg #[.int .i64 9,.string ⟨#[100,114,111,112]⟩,.slice x52 n52 c52]) (h54 : t 54 = .agg #[.int .i64 10,.string ⟨#[116,119,105,99,101]⟩,.slice x54 n54 c54]) (h63 : t 63 = .agg #[.int .i64 11,.string ⟨#[115,112,111,105,108]⟩,.slice x63 n63 c63]) (h71 : t 71 = .agg #[.int .i64 12,.string ⟨#[102,111,114,103,101]⟩,.slice x71 n71 c71]) (h75 : t 75 = .agg #[.int .i64 13,.string ⟨#[100,111,119,110]⟩,.slice x75 n75 c75]) (h79 : t 79 = .agg #[.int .i64 14,.string ⟨#[117,112]⟩,.slice x79 n79 c79]) (h : alc (.cells #[.int .i64 1,.string ⟨#[111,112,101,110]⟩,.slice x14 n14 c14,.int .i64 2,.string ⟨#[115,101,110,100]⟩,.slice x26 n26 c26,.int .i64 3,.string ⟨#[114,101,99,101,105,118,101]⟩,.slice x30 n30 c30,.int .i64 4,.string ⟨#[115,104,117,116,100,111,119,110]⟩,.slice x34 n34 c34,.int .i64 5,.string ⟨#[97,98,111,114,116]⟩,.slice x40 n40 c40,.int .i64 6,.string ⟨#[116,105,99,107]⟩,.slice x44 n44 c44,.int .i64 7,.string ⟨#[99,108,111,99,107]⟩,.slice x48 n48 c48,.int .i64 8,.string ⟨#[100,101,108,105,118,101,114]⟩,.slice x50 n50 c50,.int .i64 9,.string ⟨#[100,114,111,112]⟩,.slice x52 n52 c52,.int .i64 10,.string ⟨#[116,119,105,99,101]⟩,.slice x54 n54 c54,.int .i64 11,.string ⟨#[115,112,111,105,108]⟩,.slice x63 n63 c63,.int .i64 12,.string ⟨#[102,111,114,103,101]⟩,.slice x71 n71 c71,.int .i64 13,.string ⟨#[100,111,119,110]⟩,.slice x75 n75 c75,.int .i64 14,.string ⟨#[117,112]⟩,.slice x79 n79 c79] 86) w fun b w' => R (upd t 80 (.slice (some (Addr.mk b 0 none)) 14 14)) w') : SA wr 69 t w R := by
 obtain ⟨s,rfl⟩ : ∃ s,t = (upd (upd (upd (upd (upd (upd (upd (upd (upd (upd (upd (upd (upd (upd s 14 (.agg #[.int .i64 1,.string ⟨#[111,112,101,110]⟩,.slice x14 n14 c14])) 26 (.agg #[.int .i64 2,.string ⟨#[115,101,110,100]⟩,.slice x26 n26 c26])) 30 (.agg #[.int .i64 3,.string ⟨#[114,101,99,101,105,118,101]⟩,.slice x30 n30 c30])) 34 (.agg #[.int .i64 4,.string ⟨#[115,104,117,116,100,111,119,110]⟩,.slice x34 n34 c34])) 40 (.agg #[.int .i64 5,.string ⟨#[97,98,111,114,116]⟩,.slice x40 n40 c40])) 44 (.agg #[.int .i64 6,.string ⟨#[116,105,99,107]⟩,.slice x44 n44 c44])) 48 (.agg #[.int .i64 7,.string ⟨#[99,108,111,99,107]⟩,.slice x48 n48 c48])) 50 (.agg #[.int .i64 8,.string ⟨#[100,101,108,105,118,101,114]⟩,.slice x50 n50 c50])) 52 (.agg #[.int .i64 9,.string ⟨#[100,114,111,112]⟩,.slice x52 n52 c52])) 54 (.agg #[.int .i64 10,.string ⟨#[116,119,105,99,101]⟩,.slice x54 n54 c54])) 63 (.agg #[.int .i64 11,.string ⟨#[115,112,111,105,108]⟩,.slice x63 n63 c63])) 71 (.agg #[.int .i64 12,.string ⟨#[102,111,114,103,101]⟩,.slice x71 n71 c71])) 75 (.agg #[.int .i64 13,.string ⟨#[100,111,119,110]⟩,.slice x75 n75 c75])) 79 (.agg #[.int .i64 14,.string ⟨#[117,112]⟩,.slice x79 n79 c79])) := ⟨t,by rw [upd_same t 14 h14,upd_same t 26 h26,upd_same t 30 h30,upd_same t 34 h34,upd_same t 40 h40,upd_same t 44 h44,upd_same t 48 h48,upd_same t 50 h50,upd_same t 52 h52,upd_same t 54 h54,upd_same t 63 h63,upd_same t 71 h71,upd_same t 75 h75,upd_same t 79 h79]⟩
 exact Eq.mp (by kernel_rfl) h
theorem st70 {t : Tm} {w wr : World} {R : Tm -> World -> Prop}   (h : R (upd t 2 (t 80)) w) : SA wr 70 t w R := by
 exact Eq.mp (by kernel_rfl) h
end Go.Proofs.YtilenpnpnbdndaaGreatDoor
namespace Go.Proofs.YtilenpnpnbdndaaGreatDoor
open Go Go.Sh
set_option maxRecDepth 100000
def fv (q1 q2 : Option Addr) (k : Nat) : Value := .func (.func k) #[.agg #[.pointer q1,.pointer q2]] #[]
structure Vt where
 i : Nat
 dst : Nat
 dep : Nat
 V : Option Addr × Nat -> Value
def VL (q1 q2 x3 : Option Addr) (c3 : Nat) : List Vt := [⟨0,11,99,fun _ => .agg #[.pointer q1,.pointer q2]⟩,
 ⟨1,12,99,fun _ => fv q1 q2 69⟩,
 ⟨2,13,2,fun x => .slice x.1 1 x.2⟩,
 ⟨3,14,2,fun x => .agg #[.int .i64 1,.string ⟨#[111,112,101,110]⟩,.slice x.1 1 x.2]⟩,
 ⟨4,15,99,fun _ => .agg #[.pointer q1,.pointer q2]⟩,
 ⟨5,16,99,fun _ => fv q1 q2 69⟩,
 ⟨6,17,99,fun _ => .agg #[.pointer q1,.pointer q2]⟩,
 ⟨7,18,99,fun _ => fv q1 q2 72⟩,
 ⟨8,19,99,fun _ => .agg #[.pointer q1,.pointer q2]⟩,
 ⟨9,20,99,fun _ => fv q1 q2 73⟩,
 ⟨10,21,99,fun _ => .agg #[.pointer q1,.pointer q2]⟩,
 ⟨11,22,99,fun _ => fv q1 q2 74⟩,
 ⟨12,23,99,fun _ => .agg #[.pointer q1,.pointer q2]⟩,
 ⟨13,24,99,fun _ => fv q1 q2 75⟩,
 ⟨14,25,14,fun x => .slice x.1 5 x.2⟩,
 ⟨15,26,14,fun x => .agg #[.int .i64 2,.string ⟨#[115,101,110,100]⟩,.slice x.1 5 x.2]⟩,
 ⟨16,27,99,fun _ => .agg #[.pointer q1,.pointer q2]⟩,
 ⟨17,28,99,fun _ => fv q1 q2 69⟩,
 ⟨18,29,18,fun x => .slice x.1 1 x.2⟩,
 ⟨19,30,18,fun x => .agg #[.int .i64 3,.string ⟨#[114,101,99,101,105,118,101]⟩,.slice x.1 1 x.2]⟩,
 ⟨20,31,99,fun _ => .agg #[.pointer q1,.pointer q2]⟩,
 ⟨21,32,99,fun _ => fv q1 q2 69⟩,
 ⟨22,33,22,fun x => .slice x.1 1 x.2⟩,
 ⟨23,34,22,fun x => .agg #[.int .i64 4,.string ⟨#[115,104,117,116,100,111,119,110]⟩,.slice x.1 1 x.2]⟩,
 ⟨24,35,99,fun _ => .agg #[.pointer q1,.pointer q2]⟩,
 ⟨25,36,99,fun _ => fv q1 q2 69⟩,
 ⟨26,37,99,fun _ => .agg #[.pointer q1,.pointer q2]⟩,
 ⟨27,38,99,fun _ => fv q1 q2 76⟩,
 ⟨28,39,28,fun x => .slice x.1 2 x.2⟩,
 ⟨29,40,28,fun x => .agg #[.int .i64 5,.string ⟨#[97,98,111,114,116]⟩,.slice x.1 2 x.2]⟩,
 ⟨30,41,99,fun _ => .agg #[.pointer q1,.pointer q2]⟩,
 ⟨31,42,99,fun _ => fv q1 q2 69⟩,
 ⟨32,43,32,fun x => .slice x.1 1 x.2⟩,
 ⟨33,44,32,fun x => .agg #[.int .i64 6,.string ⟨#[116,105,99,107]⟩,.slice x.1 1 x.2]⟩,
 ⟨34,45,99,fun _ => .agg #[.pointer q1,.pointer q2]⟩,
 ⟨35,46,99,fun _ => fv q1 q2 77⟩,
 ⟨36,47,36,fun x => .slice x.1 1 x.2⟩,
 ⟨37,48,36,fun x => .agg #[.int .i64 7,.string ⟨#[99,108,111,99,107]⟩,.slice x.1 1 x.2]⟩,
 ⟨38,49,99,fun _ => .slice x3 3 c3⟩,
 ⟨39,50,99,fun _ => .agg #[.int .i64 8,.string ⟨#[100,101,108,105,118,101,114]⟩,.slice x3 3 c3]⟩,
 ⟨40,51,99,fun _ => .slice x3 3 c3⟩,
 ⟨41,52,99,fun _ => .agg #[.int .i64 9,.string ⟨#[100,114,111,112]⟩,.slice x3 3 c3]⟩,
 ⟨42,53,99,fun _ => .slice x3 3 c3⟩,
 ⟨43,54,99,fun _ => .agg #[.int .i64 10,.string ⟨#[116,119,105,99,101]⟩,.slice x3 3 c3]⟩,
 ⟨44,55,99,fun _ => .slice x3 3 c3⟩,
 ⟨45,56,45,fun x => .slice x.1 3 x.2⟩,
 ⟨46,57,99,fun _ => .agg #[.pointer q1,.pointer q2]⟩,
 ⟨47,58,99,fun _ => fv q1 q2 79⟩,
 ⟨48,59,99,fun _ => .agg #[.pointer q1,.pointer q2]⟩,
 ⟨49,60,99,fun _ => fv q1 q2 80⟩,
 ⟨50,61,50,fun x => .slice x.1 2 x.2⟩,
 ⟨51,62,51,fun x => .slice x.1 5 x.2⟩,
 ⟨52,63,51,fun x => .agg #[.int .i64 11,.string ⟨#[115,112,111,105,108]⟩,.slice x.1 5 x.2]⟩,
 ⟨53,64,99,fun _ => .agg #[.pointer q1,.pointer q2]⟩,
 ⟨54,65,99,fun _ => fv q1 q2 69⟩,
 ⟨55,66,99,fun _ => .agg #[.pointer q1,.pointer q2]⟩,
 ⟨56,67,99,fun _ => fv q1 q2 70⟩,
 ⟨57,68,99,fun _ => .agg #[.pointer q1,.pointer q2]⟩,
 ⟨58,69,99,fun _ => fv q1 q2 75⟩,
 ⟨59,70,59,fun x => .slice x.1 3 x.2⟩,
 ⟨60,71,59,fun x => .agg #[.int .i64 12,.string ⟨#[102,111,114,103,101]⟩,.slice x.1 3 x.2]⟩,
 ⟨61,72,99,fun _ => .agg #[.pointer q1,.pointer q2]⟩,
 ⟨62,73,99,fun _ => fv q1 q2 70⟩,
 ⟨63,74,63,fun x => .slice x.1 1 x.2⟩,
 ⟨64,75,63,fun x => .agg #[.int .i64 13,.string ⟨#[100,111,119,110]⟩,.slice x.1 1 x.2]⟩,
 ⟨65,76,99,fun _ => .agg #[.pointer q1,.pointer q2]⟩,
 ⟨66,77,99,fun _ => fv q1 q2 70⟩,
 ⟨67,78,67,fun x => .slice x.1 1 x.2⟩,
 ⟨68,79,67,fun x => .agg #[.int .i64 14,.string ⟨#[117,112]⟩,.slice x.1 1 x.2]⟩]
def AL : List Nat := [2,14,18,22,28,32,36,45,50,51,59,63,67]
def AN : Nat -> Nat
 | 2 => 1
 | 14 => 5
 | 18 => 1
 | 22 => 1
 | 28 => 2
 | 32 => 1
 | 36 => 1
 | 45 => 3
 | 50 => 2
 | 51 => 5
 | 59 => 3
 | 63 => 1
 | 67 => 1
 | _ => 0
def AP (q1 q2 : Option Addr) : Nat -> List Value
 | 2 => [fv q1 q2 69]
 | 14 => [fv q1 q2 69,fv q1 q2 72,fv q1 q2 73,fv q1 q2 74,fv q1 q2 75]
 | 18 => [fv q1 q2 69]
 | 22 => [fv q1 q2 69]
 | 28 => [fv q1 q2 69,fv q1 q2 76]
 | 32 => [fv q1 q2 69]
 | 36 => [fv q1 q2 77]
 | 45 => [fv q1 q2 69,fv q1 q2 70,fv q1 q2 71]
 | 50 => [fv q1 q2 79,fv q1 q2 80]
 | 51 => [fv q1 q2 69,fv q1 q2 70,fv q1 q2 71,fv q1 q2 79,fv q1 q2 80]
 | 59 => [fv q1 q2 69,fv q1 q2 70,fv q1 q2 75]
 | 63 => [fv q1 q2 70]
 | 67 => [fv q1 q2 70]
 | _ => []
def pkt (q1 q2 : Option Addr) : List Value := [fv q1 q2 69,fv q1 q2 70,fv q1 q2 71]
end Go.Proofs.YtilenpnpnbdndaaGreatDoor
