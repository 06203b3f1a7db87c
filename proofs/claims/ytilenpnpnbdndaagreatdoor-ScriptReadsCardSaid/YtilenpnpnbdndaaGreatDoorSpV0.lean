/- Own text: part of the shallow reading of the code and of the contracts that are proved over it. -/
import Derived.Test.YtilenpnpnbdndaaGreatDoorSrR
import Derived.Test.YtilenpnpnbdndaaGreatDoorShAn
import Derived.KernelRfl
namespace Go.Proofs.YtilenpnpnbdndaaGreatDoor
open Go Go.Sh
set_option maxRecDepth 100000
attribute [local instance] Esc.none
noncomputable def F48_code : Code := Tryz.f48.body.getD .skip
noncomputable def ops48 : Array Oper := match getAt F48_code [0,1,1] with | .region _ ops _ => ops | _ => #[]
noncomputable def ms48 : List Go.Sh.It := marked Tryz.prog ops48.toList
noncomputable def D48 : List (Nat × Nat × Bool) := dlist Tryz.prog ms48
theorem se0 (t : Tm) (w wr : World) (R : Tm -> World -> Prop) {a : Addr} : stepAt Tryz.prog ops48.toList wr ms48 0 (upd t 1 (.pointer (some a))) w R = (ldP (a.add 0) wr fun p => ldP (a.add 1) wr fun q => R (upd (upd t 1 (.pointer (some a))) 11 (.agg #[.pointer p,.pointer q])) w) := by kernel_rfl
theorem st0 {t : Tm} {w wr : World} {R : Tm -> World -> Prop} {a : Addr} (h1 : t 1 = .pointer (some a)) (h : ldP (a.add 0) wr fun p => ldP (a.add 1) wr fun q => R (upd t 11 (.agg #[.pointer p,.pointer q])) w) : stepAt Tryz.prog ops48.toList wr ms48 0 t w R := by
  have e := se0 (a := a) t w wr R
  rw [upd_same t 1 h1] at e
  rw [e]; exact h
theorem se1 (t : Tm) (w wr : World) (R : Tm -> World -> Prop)  : stepAt Tryz.prog ops48.toList wr ms48 1 t w R = (R (upd t 12 (.func (.func 69) #[t 11] #[])) w) := by kernel_rfl
theorem st1 {t : Tm} {w wr : World} {R : Tm -> World -> Prop}   (h : R (upd t 12 (.func (.func 69) #[t 11] #[])) w) : stepAt Tryz.prog ops48.toList wr ms48 1 t w R := by
  have e := se1  t w wr R
  skip
  rw [e]; exact h
theorem se2 (t : Tm) (w wr : World) (R : Tm -> World -> Prop) {x12 : Value} : stepAt Tryz.prog ops48.toList wr ms48 2 (upd t 12 (.func (.func 69) #[x12] #[])) w R = (alc (.cells #[.func (.func 69) #[x12] #[]] 1) w fun b w' => Pres wr w' /\ R (upd (upd t 12 (.func (.func 69) #[x12] #[])) 13 (.slice (some (Addr.mk b 0 none)) 1 1)) w') := by kernel_rfl
theorem st2 {t : Tm} {w wr : World} {R : Tm -> World -> Prop} {x12 : Value} (h12 : t 12 = .func (.func 69) #[x12] #[]) (h : alc (.cells #[.func (.func 69) #[x12] #[]] 1) w fun b w' => Pres wr w' /\ R (upd t 13 (.slice (some (Addr.mk b 0 none)) 1 1)) w') : stepAt Tryz.prog ops48.toList wr ms48 2 t w R := by
  have e := se2 (x12 := x12) t w wr R
  rw [upd_same t 12 h12] at e
  rw [e]; exact h
theorem se3 (t : Tm) (w wr : World) (R : Tm -> World -> Prop) {x : Option Addr} {n c : Nat} : stepAt Tryz.prog ops48.toList wr ms48 3 (upd t 13 (.slice x n c)) w R = (R (upd (upd t 13 (.slice x n c)) 14 (.agg #[.int .i64 1,.string ⟨#[111,112,101,110]⟩,.slice x n c])) w) := by kernel_rfl
theorem st3 {t : Tm} {w wr : World} {R : Tm -> World -> Prop} {x : Option Addr} {n c : Nat} (h13 : t 13 = .slice x n c) (h : R (upd t 14 (.agg #[.int .i64 1,.string ⟨#[111,112,101,110]⟩,.slice x n c])) w) : stepAt Tryz.prog ops48.toList wr ms48 3 t w R := by
  have e := se3 (x := x) (n := n) (c := c) t w wr R
  rw [upd_same t 13 h13] at e
  rw [e]; exact h
theorem se4 (t : Tm) (w wr : World) (R : Tm -> World -> Prop) {a : Addr} : stepAt Tryz.prog ops48.toList wr ms48 4 (upd t 1 (.pointer (some a))) w R = (ldP (a.add 0) wr fun p => ldP (a.add 1) wr fun q => R (upd (upd t 1 (.pointer (some a))) 15 (.agg #[.pointer p,.pointer q])) w) := by kernel_rfl
theorem st4 {t : Tm} {w wr : World} {R : Tm -> World -> Prop} {a : Addr} (h1 : t 1 = .pointer (some a)) (h : ldP (a.add 0) wr fun p => ldP (a.add 1) wr fun q => R (upd t 15 (.agg #[.pointer p,.pointer q])) w) : stepAt Tryz.prog ops48.toList wr ms48 4 t w R := by
  have e := se4 (a := a) t w wr R
  rw [upd_same t 1 h1] at e
  rw [e]; exact h
theorem se5 (t : Tm) (w wr : World) (R : Tm -> World -> Prop)  : stepAt Tryz.prog ops48.toList wr ms48 5 t w R = (R (upd t 16 (.func (.func 69) #[t 15] #[])) w) := by kernel_rfl
theorem st5 {t : Tm} {w wr : World} {R : Tm -> World -> Prop}   (h : R (upd t 16 (.func (.func 69) #[t 15] #[])) w) : stepAt Tryz.prog ops48.toList wr ms48 5 t w R := by
  have e := se5  t w wr R
  skip
  rw [e]; exact h
theorem se6 (t : Tm) (w wr : World) (R : Tm -> World -> Prop) {a : Addr} : stepAt Tryz.prog ops48.toList wr ms48 6 (upd t 1 (.pointer (some a))) w R = (ldP (a.add 0) wr fun p => ldP (a.add 1) wr fun q => R (upd (upd t 1 (.pointer (some a))) 17 (.agg #[.pointer p,.pointer q])) w) := by kernel_rfl
theorem st6 {t : Tm} {w wr : World} {R : Tm -> World -> Prop} {a : Addr} (h1 : t 1 = .pointer (some a)) (h : ldP (a.add 0) wr fun p => ldP (a.add 1) wr fun q => R (upd t 17 (.agg #[.pointer p,.pointer q])) w) : stepAt Tryz.prog ops48.toList wr ms48 6 t w R := by
  have e := se6 (a := a) t w wr R
  rw [upd_same t 1 h1] at e
  rw [e]; exact h
theorem se7 (t : Tm) (w wr : World) (R : Tm -> World -> Prop)  : stepAt Tryz.prog ops48.toList wr ms48 7 t w R = (R (upd t 18 (.func (.func 72) #[t 17] #[])) w) := by kernel_rfl
theorem st7 {t : Tm} {w wr : World} {R : Tm -> World -> Prop}   (h : R (upd t 18 (.func (.func 72) #[t 17] #[])) w) : stepAt Tryz.prog ops48.toList wr ms48 7 t w R := by
  have e := se7  t w wr R
  skip
  rw [e]; exact h
theorem se8 (t : Tm) (w wr : World) (R : Tm -> World -> Prop) {a : Addr} : stepAt Tryz.prog ops48.toList wr ms48 8 (upd t 1 (.pointer (some a))) w R = (ldP (a.add 0) wr fun p => ldP (a.add 1) wr fun q => R (upd (upd t 1 (.pointer (some a))) 19 (.agg #[.pointer p,.pointer q])) w) := by kernel_rfl
theorem st8 {t : Tm} {w wr : World} {R : Tm -> World -> Prop} {a : Addr} (h1 : t 1 = .pointer (some a)) (h : ldP (a.add 0) wr fun p => ldP (a.add 1) wr fun q => R (upd t 19 (.agg #[.pointer p,.pointer q])) w) : stepAt Tryz.prog ops48.toList wr ms48 8 t w R := by
  have e := se8 (a := a) t w wr R
  rw [upd_same t 1 h1] at e
  rw [e]; exact h
theorem se9 (t : Tm) (w wr : World) (R : Tm -> World -> Prop)  : stepAt Tryz.prog ops48.toList wr ms48 9 t w R = (R (upd t 20 (.func (.func 73) #[t 19] #[])) w) := by kernel_rfl
theorem st9 {t : Tm} {w wr : World} {R : Tm -> World -> Prop}   (h : R (upd t 20 (.func (.func 73) #[t 19] #[])) w) : stepAt Tryz.prog ops48.toList wr ms48 9 t w R := by
  have e := se9  t w wr R
  skip
  rw [e]; exact h
theorem se10 (t : Tm) (w wr : World) (R : Tm -> World -> Prop) {a : Addr} : stepAt Tryz.prog ops48.toList wr ms48 10 (upd t 1 (.pointer (some a))) w R = (ldP (a.add 0) wr fun p => ldP (a.add 1) wr fun q => R (upd (upd t 1 (.pointer (some a))) 21 (.agg #[.pointer p,.pointer q])) w) := by kernel_rfl
theorem st10 {t : Tm} {w wr : World} {R : Tm -> World -> Prop} {a : Addr} (h1 : t 1 = .pointer (some a)) (h : ldP (a.add 0) wr fun p => ldP (a.add 1) wr fun q => R (upd t 21 (.agg #[.pointer p,.pointer q])) w) : stepAt Tryz.prog ops48.toList wr ms48 10 t w R := by
  have e := se10 (a := a) t w wr R
  rw [upd_same t 1 h1] at e
  rw [e]; exact h
theorem se11 (t : Tm) (w wr : World) (R : Tm -> World -> Prop)  : stepAt Tryz.prog ops48.toList wr ms48 11 t w R = (R (upd t 22 (.func (.func 74) #[t 21] #[])) w) := by kernel_rfl
theorem st11 {t : Tm} {w wr : World} {R : Tm -> World -> Prop}   (h : R (upd t 22 (.func (.func 74) #[t 21] #[])) w) : stepAt Tryz.prog ops48.toList wr ms48 11 t w R := by
  have e := se11  t w wr R
  skip
  rw [e]; exact h
theorem se12 (t : Tm) (w wr : World) (R : Tm -> World -> Prop) {a : Addr} : stepAt Tryz.prog ops48.toList wr ms48 12 (upd t 1 (.pointer (some a))) w R = (ldP (a.add 0) wr fun p => ldP (a.add 1) wr fun q => R (upd (upd t 1 (.pointer (some a))) 23 (.agg #[.pointer p,.pointer q])) w) := by kernel_rfl
theorem st12 {t : Tm} {w wr : World} {R : Tm -> World -> Prop} {a : Addr} (h1 : t 1 = .pointer (some a)) (h : ldP (a.add 0) wr fun p => ldP (a.add 1) wr fun q => R (upd t 23 (.agg #[.pointer p,.pointer q])) w) : stepAt Tryz.prog ops48.toList wr ms48 12 t w R := by
  have e := se12 (a := a) t w wr R
  rw [upd_same t 1 h1] at e
  rw [e]; exact h
theorem se13 (t : Tm) (w wr : World) (R : Tm -> World -> Prop)  : stepAt Tryz.prog ops48.toList wr ms48 13 t w R = (R (upd t 24 (.func (.func 75) #[t 23] #[])) w) := by kernel_rfl
theorem st13 {t : Tm} {w wr : World} {R : Tm -> World -> Prop}   (h : R (upd t 24 (.func (.func 75) #[t 23] #[])) w) : stepAt Tryz.prog ops48.toList wr ms48 13 t w R := by
  have e := se13  t w wr R
  skip
  rw [e]; exact h
theorem se14 (t : Tm) (w wr : World) (R : Tm -> World -> Prop) {x16 x18 x20 x22 x24 : Value} : stepAt Tryz.prog ops48.toList wr ms48 14 (upd (upd (upd (upd (upd t 16 (.func (.func 69) #[x16] #[])) 18 (.func (.func 72) #[x18] #[])) 20 (.func (.func 73) #[x20] #[])) 22 (.func (.func 74) #[x22] #[])) 24 (.func (.func 75) #[x24] #[])) w R = (alc (.cells #[.func (.func 69) #[x16] #[],.func (.func 72) #[x18] #[],.func (.func 73) #[x20] #[],.func (.func 74) #[x22] #[],.func (.func 75) #[x24] #[]] 1) w fun b w' => Pres wr w' /\ R (upd (upd (upd (upd (upd (upd t 16 (.func (.func 69) #[x16] #[])) 18 (.func (.func 72) #[x18] #[])) 20 (.func (.func 73) #[x20] #[])) 22 (.func (.func 74) #[x22] #[])) 24 (.func (.func 75) #[x24] #[])) 25 (.slice (some (Addr.mk b 0 none)) 5 5)) w') := by kernel_rfl
theorem st14 {t : Tm} {w wr : World} {R : Tm -> World -> Prop} {x16 x18 x20 x22 x24 : Value} (h16 : t 16 = .func (.func 69) #[x16] #[]) (h18 : t 18 = .func (.func 72) #[x18] #[]) (h20 : t 20 = .func (.func 73) #[x20] #[]) (h22 : t 22 = .func (.func 74) #[x22] #[]) (h24 : t 24 = .func (.func 75) #[x24] #[]) (h : alc (.cells #[.func (.func 69) #[x16] #[],.func (.func 72) #[x18] #[],.func (.func 73) #[x20] #[],.func (.func 74) #[x22] #[],.func (.func 75) #[x24] #[]] 1) w fun b w' => Pres wr w' /\ R (upd t 25 (.slice (some (Addr.mk b 0 none)) 5 5)) w') : stepAt Tryz.prog ops48.toList wr ms48 14 t w R := by
  have e := se14 (x16 := x16) (x18 := x18) (x20 := x20) (x22 := x22) (x24 := x24) t w wr R
  rw [upd_same t 16 h16] at e
  rw [upd_same t 18 h18] at e
  rw [upd_same t 20 h20] at e
  rw [upd_same t 22 h22] at e
  rw [upd_same t 24 h24] at e
  rw [e]; exact h
theorem se15 (t : Tm) (w wr : World) (R : Tm -> World -> Prop) {x : Option Addr} {n c : Nat} : stepAt Tryz.prog ops48.toList wr ms48 15 (upd t 25 (.slice x n c)) w R = (R (upd (upd t 25 (.slice x n c)) 26 (.agg #[.int .i64 2,.string ⟨#[115,101,110,100]⟩,.slice x n c])) w) := by kernel_rfl
theorem st15 {t : Tm} {w wr : World} {R : Tm -> World -> Prop} {x : Option Addr} {n c : Nat} (h25 : t 25 = .slice x n c) (h : R (upd t 26 (.agg #[.int .i64 2,.string ⟨#[115,101,110,100]⟩,.slice x n c])) w) : stepAt Tryz.prog ops48.toList wr ms48 15 t w R := by
  have e := se15 (x := x) (n := n) (c := c) t w wr R
  rw [upd_same t 25 h25] at e
  rw [e]; exact h
theorem se16 (t : Tm) (w wr : World) (R : Tm -> World -> Prop) {a : Addr} : stepAt Tryz.prog ops48.toList wr ms48 16 (upd t 1 (.pointer (some a))) w R = (ldP (a.add 0) wr fun p => ldP (a.add 1) wr fun q => R (upd (upd t 1 (.pointer (some a))) 27 (.agg #[.pointer p,.pointer q])) w) := by kernel_rfl
theorem st16 {t : Tm} {w wr : World} {R : Tm -> World -> Prop} {a : Addr} (h1 : t 1 = .pointer (some a)) (h : ldP (a.add 0) wr fun p => ldP (a.add 1) wr fun q => R (upd t 27 (.agg #[.pointer p,.pointer q])) w) : stepAt Tryz.prog ops48.toList wr ms48 16 t w R := by
  have e := se16 (a := a) t w wr R
  rw [upd_same t 1 h1] at e
  rw [e]; exact h
theorem se17 (t : Tm) (w wr : World) (R : Tm -> World -> Prop)  : stepAt Tryz.prog ops48.toList wr ms48 17 t w R = (R (upd t 28 (.func (.func 69) #[t 27] #[])) w) := by kernel_rfl
theorem st17 {t : Tm} {w wr : World} {R : Tm -> World -> Prop}   (h : R (upd t 28 (.func (.func 69) #[t 27] #[])) w) : stepAt Tryz.prog ops48.toList wr ms48 17 t w R := by
  have e := se17  t w wr R
  skip
  rw [e]; exact h
theorem se18 (t : Tm) (w wr : World) (R : Tm -> World -> Prop) {x28 : Value} : stepAt Tryz.prog ops48.toList wr ms48 18 (upd t 28 (.func (.func 69) #[x28] #[])) w R = (alc (.cells #[.func (.func 69) #[x28] #[]] 1) w fun b w' => Pres wr w' /\ R (upd (upd t 28 (.func (.func 69) #[x28] #[])) 29 (.slice (some (Addr.mk b 0 none)) 1 1)) w') := by kernel_rfl
theorem st18 {t : Tm} {w wr : World} {R : Tm -> World -> Prop} {x28 : Value} (h28 : t 28 = .func (.func 69) #[x28] #[]) (h : alc (.cells #[.func (.func 69) #[x28] #[]] 1) w fun b w' => Pres wr w' /\ R (upd t 29 (.slice (some (Addr.mk b 0 none)) 1 1)) w') : stepAt Tryz.prog ops48.toList wr ms48 18 t w R := by
  have e := se18 (x28 := x28) t w wr R
  rw [upd_same t 28 h28] at e
  rw [e]; exact h
theorem se19 (t : Tm) (w wr : World) (R : Tm -> World -> Prop) {x : Option Addr} {n c : Nat} : stepAt Tryz.prog ops48.toList wr ms48 19 (upd t 29 (.slice x n c)) w R = (R (upd (upd t 29 (.slice x n c)) 30 (.agg #[.int .i64 3,.string ⟨#[114,101,99,101,105,118,101]⟩,.slice x n c])) w) := by kernel_rfl
theorem st19 {t : Tm} {w wr : World} {R : Tm -> World -> Prop} {x : Option Addr} {n c : Nat} (h29 : t 29 = .slice x n c) (h : R (upd t 30 (.agg #[.int .i64 3,.string ⟨#[114,101,99,101,105,118,101]⟩,.slice x n c])) w) : stepAt Tryz.prog ops48.toList wr ms48 19 t w R := by
  have e := se19 (x := x) (n := n) (c := c) t w wr R
  rw [upd_same t 29 h29] at e
  rw [e]; exact h
theorem se20 (t : Tm) (w wr : World) (R : Tm -> World -> Prop) {a : Addr} : stepAt Tryz.prog ops48.toList wr ms48 20 (upd t 1 (.pointer (some a))) w R = (ldP (a.add 0) wr fun p => ldP (a.add 1) wr fun q => R (upd (upd t 1 (.pointer (some a))) 31 (.agg #[.pointer p,.pointer q])) w) := by kernel_rfl
theorem st20 {t : Tm} {w wr : World} {R : Tm -> World -> Prop} {a : Addr} (h1 : t 1 = .pointer (some a)) (h : ldP (a.add 0) wr fun p => ldP (a.add 1) wr fun q => R (upd t 31 (.agg #[.pointer p,.pointer q])) w) : stepAt Tryz.prog ops48.toList wr ms48 20 t w R := by
  have e := se20 (a := a) t w wr R
  rw [upd_same t 1 h1] at e
  rw [e]; exact h
theorem se21 (t : Tm) (w wr : World) (R : Tm -> World -> Prop)  : stepAt Tryz.prog ops48.toList wr ms48 21 t w R = (R (upd t 32 (.func (.func 69) #[t 31] #[])) w) := by kernel_rfl
theorem st21 {t : Tm} {w wr : World} {R : Tm -> World -> Prop}   (h : R (upd t 32 (.func (.func 69) #[t 31] #[])) w) : stepAt Tryz.prog ops48.toList wr ms48 21 t w R := by
  have e := se21  t w wr R
  skip
  rw [e]; exact h
theorem se22 (t : Tm) (w wr : World) (R : Tm -> World -> Prop) {x32 : Value} : stepAt Tryz.prog ops48.toList wr ms48 22 (upd t 32 (.func (.func 69) #[x32] #[])) w R = (alc (.cells #[.func (.func 69) #[x32] #[]] 1) w fun b w' => Pres wr w' /\ R (upd (upd t 32 (.func (.func 69) #[x32] #[])) 33 (.slice (some (Addr.mk b 0 none)) 1 1)) w') := by kernel_rfl
theorem st22 {t : Tm} {w wr : World} {R : Tm -> World -> Prop} {x32 : Value} (h32 : t 32 = .func (.func 69) #[x32] #[]) (h : alc (.cells #[.func (.func 69) #[x32] #[]] 1) w fun b w' => Pres wr w' /\ R (upd t 33 (.slice (some (Addr.mk b 0 none)) 1 1)) w') : stepAt Tryz.prog ops48.toList wr ms48 22 t w R := by
  have e := se22 (x32 := x32) t w wr R
  rw [upd_same t 32 h32] at e
  rw [e]; exact h
theorem se23 (t : Tm) (w wr : World) (R : Tm -> World -> Prop) {x : Option Addr} {n c : Nat} : stepAt Tryz.prog ops48.toList wr ms48 23 (upd t 33 (.slice x n c)) w R = (R (upd (upd t 33 (.slice x n c)) 34 (.agg #[.int .i64 4,.string ⟨#[115,104,117,116,100,111,119,110]⟩,.slice x n c])) w) := by kernel_rfl
theorem st23 {t : Tm} {w wr : World} {R : Tm -> World -> Prop} {x : Option Addr} {n c : Nat} (h33 : t 33 = .slice x n c) (h : R (upd t 34 (.agg #[.int .i64 4,.string ⟨#[115,104,117,116,100,111,119,110]⟩,.slice x n c])) w) : stepAt Tryz.prog ops48.toList wr ms48 23 t w R := by
  have e := se23 (x := x) (n := n) (c := c) t w wr R
  rw [upd_same t 33 h33] at e
  rw [e]; exact h
theorem se24 (t : Tm) (w wr : World) (R : Tm -> World -> Prop) {a : Addr} : stepAt Tryz.prog ops48.toList wr ms48 24 (upd t 1 (.pointer (some a))) w R = (ldP (a.add 0) wr fun p => ldP (a.add 1) wr fun q => R (upd (upd t 1 (.pointer (some a))) 35 (.agg #[.pointer p,.pointer q])) w) := by kernel_rfl
theorem st24 {t : Tm} {w wr : World} {R : Tm -> World -> Prop} {a : Addr} (h1 : t 1 = .pointer (some a)) (h : ldP (a.add 0) wr fun p => ldP (a.add 1) wr fun q => R (upd t 35 (.agg #[.pointer p,.pointer q])) w) : stepAt Tryz.prog ops48.toList wr ms48 24 t w R := by
  have e := se24 (a := a) t w wr R
  rw [upd_same t 1 h1] at e
  rw [e]; exact h
theorem se25 (t : Tm) (w wr : World) (R : Tm -> World -> Prop)  : stepAt Tryz.prog ops48.toList wr ms48 25 t w R = (R (upd t 36 (.func (.func 69) #[t 35] #[])) w) := by kernel_rfl
theorem st25 {t : Tm} {w wr : World} {R : Tm -> World -> Prop}   (h : R (upd t 36 (.func (.func 69) #[t 35] #[])) w) : stepAt Tryz.prog ops48.toList wr ms48 25 t w R := by
  have e := se25  t w wr R
  skip
  rw [e]; exact h
theorem se26 (t : Tm) (w wr : World) (R : Tm -> World -> Prop) {a : Addr} : stepAt Tryz.prog ops48.toList wr ms48 26 (upd t 1 (.pointer (some a))) w R = (ldP (a.add 0) wr fun p => ldP (a.add 1) wr fun q => R (upd (upd t 1 (.pointer (some a))) 37 (.agg #[.pointer p,.pointer q])) w) := by kernel_rfl
theorem st26 {t : Tm} {w wr : World} {R : Tm -> World -> Prop} {a : Addr} (h1 : t 1 = .pointer (some a)) (h : ldP (a.add 0) wr fun p => ldP (a.add 1) wr fun q => R (upd t 37 (.agg #[.pointer p,.pointer q])) w) : stepAt Tryz.prog ops48.toList wr ms48 26 t w R := by
  have e := se26 (a := a) t w wr R
  rw [upd_same t 1 h1] at e
  rw [e]; exact h
theorem se27 (t : Tm) (w wr : World) (R : Tm -> World -> Prop)  : stepAt Tryz.prog ops48.toList wr ms48 27 t w R = (R (upd t 38 (.func (.func 76) #[t 37] #[])) w) := by kernel_rfl
theorem st27 {t : Tm} {w wr : World} {R : Tm -> World -> Prop}   (h : R (upd t 38 (.func (.func 76) #[t 37] #[])) w) : stepAt Tryz.prog ops48.toList wr ms48 27 t w R := by
  have e := se27  t w wr R
  skip
  rw [e]; exact h
theorem se28 (t : Tm) (w wr : World) (R : Tm -> World -> Prop) {x36 x38 : Value} : stepAt Tryz.prog ops48.toList wr ms48 28 (upd (upd t 36 (.func (.func 69) #[x36] #[])) 38 (.func (.func 76) #[x38] #[])) w R = (alc (.cells #[.func (.func 69) #[x36] #[],.func (.func 76) #[x38] #[]] 1) w fun b w' => Pres wr w' /\ R (upd (upd (upd t 36 (.func (.func 69) #[x36] #[])) 38 (.func (.func 76) #[x38] #[])) 39 (.slice (some (Addr.mk b 0 none)) 2 2)) w') := by kernel_rfl
theorem st28 {t : Tm} {w wr : World} {R : Tm -> World -> Prop} {x36 x38 : Value} (h36 : t 36 = .func (.func 69) #[x36] #[]) (h38 : t 38 = .func (.func 76) #[x38] #[]) (h : alc (.cells #[.func (.func 69) #[x36] #[],.func (.func 76) #[x38] #[]] 1) w fun b w' => Pres wr w' /\ R (upd t 39 (.slice (some (Addr.mk b 0 none)) 2 2)) w') : stepAt Tryz.prog ops48.toList wr ms48 28 t w R := by
  have e := se28 (x36 := x36) (x38 := x38) t w wr R
  rw [upd_same t 36 h36] at e
  rw [upd_same t 38 h38] at e
  rw [e]; exact h
theorem se29 (t : Tm) (w wr : World) (R : Tm -> World -> Prop) {x : Option Addr} {n c : Nat} : stepAt Tryz.prog ops48.toList wr ms48 29 (upd t 39 (.slice x n c)) w R = (R (upd (upd t 39 (.slice x n c)) 40 (.agg #[.int .i64 5,.string ⟨#[97,98,111,114,116]⟩,.slice x n c])) w) := by kernel_rfl
theorem st29 {t : Tm} {w wr : World} {R : Tm -> World -> Prop} {x : Option Addr} {n c : Nat} (h39 : t 39 = .slice x n c) (h : R (upd t 40 (.agg #[.int .i64 5,.string ⟨#[97,98,111,114,116]⟩,.slice x n c])) w) : stepAt Tryz.prog ops48.toList wr ms48 29 t w R := by
  have e := se29 (x := x) (n := n) (c := c) t w wr R
  rw [upd_same t 39 h39] at e
  rw [e]; exact h
theorem se30 (t : Tm) (w wr : World) (R : Tm -> World -> Prop) {a : Addr} : stepAt Tryz.prog ops48.toList wr ms48 30 (upd t 1 (.pointer (some a))) w R = (ldP (a.add 0) wr fun p => ldP (a.add 1) wr fun q => R (upd (upd t 1 (.pointer (some a))) 41 (.agg #[.pointer p,.pointer q])) w) := by kernel_rfl
theorem st30 {t : Tm} {w wr : World} {R : Tm -> World -> Prop} {a : Addr} (h1 : t 1 = .pointer (some a)) (h : ldP (a.add 0) wr fun p => ldP (a.add 1) wr fun q => R (upd t 41 (.agg #[.pointer p,.pointer q])) w) : stepAt Tryz.prog ops48.toList wr ms48 30 t w R := by
  have e := se30 (a := a) t w wr R
  rw [upd_same t 1 h1] at e
  rw [e]; exact h
theorem se31 (t : Tm) (w wr : World) (R : Tm -> World -> Prop)  : stepAt Tryz.prog ops48.toList wr ms48 31 t w R = (R (upd t 42 (.func (.func 69) #[t 41] #[])) w) := by kernel_rfl
theorem st31 {t : Tm} {w wr : World} {R : Tm -> World -> Prop}   (h : R (upd t 42 (.func (.func 69) #[t 41] #[])) w) : stepAt Tryz.prog ops48.toList wr ms48 31 t w R := by
  have e := se31  t w wr R
  skip
  rw [e]; exact h
theorem se32 (t : Tm) (w wr : World) (R : Tm -> World -> Prop) {x42 : Value} : stepAt Tryz.prog ops48.toList wr ms48 32 (upd t 42 (.func (.func 69) #[x42] #[])) w R = (alc (.cells #[.func (.func 69) #[x42] #[]] 1) w fun b w' => Pres wr w' /\ R (upd (upd t 42 (.func (.func 69) #[x42] #[])) 43 (.slice (some (Addr.mk b 0 none)) 1 1)) w') := by kernel_rfl
theorem st32 {t : Tm} {w wr : World} {R : Tm -> World -> Prop} {x42 : Value} (h42 : t 42 = .func (.func 69) #[x42] #[]) (h : alc (.cells #[.func (.func 69) #[x42] #[]] 1) w fun b w' => Pres wr w' /\ R (upd t 43 (.slice (some (Addr.mk b 0 none)) 1 1)) w') : stepAt Tryz.prog ops48.toList wr ms48 32 t w R := by
  have e := se32 (x42 := x42) t w wr R
  rw [upd_same t 42 h42] at e
  rw [e]; exact h
theorem se33 (t : Tm) (w wr : World) (R : Tm -> World -> Prop) {x : Option Addr} {n c : Nat} : stepAt Tryz.prog ops48.toList wr ms48 33 (upd t 43 (.slice x n c)) w R = (R (upd (upd t 43 (.slice x n c)) 44 (.agg #[.int .i64 6,.string ⟨#[116,105,99,107]⟩,.slice x n c])) w) := by kernel_rfl
theorem st33 {t : Tm} {w wr : World} {R : Tm -> World -> Prop} {x : Option Addr} {n c : Nat} (h43 : t 43 = .slice x n c) (h : R (upd t 44 (.agg #[.int .i64 6,.string ⟨#[116,105,99,107]⟩,.slice x n c])) w) : stepAt Tryz.prog ops48.toList wr ms48 33 t w R := by
  have e := se33 (x := x) (n := n) (c := c) t w wr R
  rw [upd_same t 43 h43] at e
  rw [e]; exact h
theorem se34 (t : Tm) (w wr : World) (R : Tm -> World -> Prop) {a : Addr} : stepAt Tryz.prog ops48.toList wr ms48 34 (upd t 1 (.pointer (some a))) w R = (ldP (a.add 0) wr fun p => ldP (a.add 1) wr fun q => R (upd (upd t 1 (.pointer (some a))) 45 (.agg #[.pointer p,.pointer q])) w) := by kernel_rfl
theorem st34 {t : Tm} {w wr : World} {R : Tm -> World -> Prop} {a : Addr} (h1 : t 1 = .pointer (some a)) (h : ldP (a.add 0) wr fun p => ldP (a.add 1) wr fun q => R (upd t 45 (.agg #[.pointer p,.pointer q])) w) : stepAt Tryz.prog ops48.toList wr ms48 34 t w R := by
  have e := se34 (a := a) t w wr R
  rw [upd_same t 1 h1] at e
  rw [e]; exact h
theorem se35 (t : Tm) (w wr : World) (R : Tm -> World -> Prop)  : stepAt Tryz.prog ops48.toList wr ms48 35 t w R = (R (upd t 46 (.func (.func 77) #[t 45] #[])) w) := by kernel_rfl
theorem st35 {t : Tm} {w wr : World} {R : Tm -> World -> Prop}   (h : R (upd t 46 (.func (.func 77) #[t 45] #[])) w) : stepAt Tryz.prog ops48.toList wr ms48 35 t w R := by
  have e := se35  t w wr R
  skip
  rw [e]; exact h
theorem se36 (t : Tm) (w wr : World) (R : Tm -> World -> Prop) {x46 : Value} : stepAt Tryz.prog ops48.toList wr ms48 36 (upd t 46 (.func (.func 77) #[x46] #[])) w R = (alc (.cells #[.func (.func 77) #[x46] #[]] 1) w fun b w' => Pres wr w' /\ R (upd (upd t 46 (.func (.func 77) #[x46] #[])) 47 (.slice (some (Addr.mk b 0 none)) 1 1)) w') := by kernel_rfl
theorem st36 {t : Tm} {w wr : World} {R : Tm -> World -> Prop} {x46 : Value} (h46 : t 46 = .func (.func 77) #[x46] #[]) (h : alc (.cells #[.func (.func 77) #[x46] #[]] 1) w fun b w' => Pres wr w' /\ R (upd t 47 (.slice (some (Addr.mk b 0 none)) 1 1)) w') : stepAt Tryz.prog ops48.toList wr ms48 36 t w R := by
  have e := se36 (x46 := x46) t w wr R
  rw [upd_same t 46 h46] at e
  rw [e]; exact h
theorem se37 (t : Tm) (w wr : World) (R : Tm -> World -> Prop) {x : Option Addr} {n c : Nat} : stepAt Tryz.prog ops48.toList wr ms48 37 (upd t 47 (.slice x n c)) w R = (R (upd (upd t 47 (.slice x n c)) 48 (.agg #[.int .i64 7,.string ⟨#[99,108,111,99,107]⟩,.slice x n c])) w) := by kernel_rfl
theorem st37 {t : Tm} {w wr : World} {R : Tm -> World -> Prop} {x : Option Addr} {n c : Nat} (h47 : t 47 = .slice x n c) (h : R (upd t 48 (.agg #[.int .i64 7,.string ⟨#[99,108,111,99,107]⟩,.slice x n c])) w) : stepAt Tryz.prog ops48.toList wr ms48 37 t w R := by
  have e := se37 (x := x) (n := n) (c := c) t w wr R
  rw [upd_same t 47 h47] at e
  rw [e]; exact h
theorem se38 (t : Tm) (w wr : World) (R : Tm -> World -> Prop)  : stepAt Tryz.prog ops48.toList wr ms48 38 t w R = (R (upd t 49 (t 3)) w) := by kernel_rfl
theorem st38 {t : Tm} {w wr : World} {R : Tm -> World -> Prop}   (h : R (upd t 49 (t 3)) w) : stepAt Tryz.prog ops48.toList wr ms48 38 t w R := by
  have e := se38  t w wr R
  skip
  rw [e]; exact h
theorem se39 (t : Tm) (w wr : World) (R : Tm -> World -> Prop) {x : Option Addr} {n c : Nat} : stepAt Tryz.prog ops48.toList wr ms48 39 (upd t 49 (.slice x n c)) w R = (R (upd (upd t 49 (.slice x n c)) 50 (.agg #[.int .i64 8,.string ⟨#[100,101,108,105,118,101,114]⟩,.slice x n c])) w) := by kernel_rfl
theorem st39 {t : Tm} {w wr : World} {R : Tm -> World -> Prop} {x : Option Addr} {n c : Nat} (h49 : t 49 = .slice x n c) (h : R (upd t 50 (.agg #[.int .i64 8,.string ⟨#[100,101,108,105,118,101,114]⟩,.slice x n c])) w) : stepAt Tryz.prog ops48.toList wr ms48 39 t w R := by
  have e := se39 (x := x) (n := n) (c := c) t w wr R
  rw [upd_same t 49 h49] at e
  rw [e]; exact h
theorem se40 (t : Tm) (w wr : World) (R : Tm -> World -> Prop)  : stepAt Tryz.prog ops48.toList wr ms48 40 t w R = (R (upd t 51 (t 3)) w) := by kernel_rfl
theorem st40 {t : Tm} {w wr : World} {R : Tm -> World -> Prop}   (h : R (upd t 51 (t 3)) w) : stepAt Tryz.prog ops48.toList wr ms48 40 t w R := by
  have e := se40  t w wr R
  skip
  rw [e]; exact h
theorem se41 (t : Tm) (w wr : World) (R : Tm -> World -> Prop) {x : Option Addr} {n c : Nat} : stepAt Tryz.prog ops48.toList wr ms48 41 (upd t 51 (.slice x n c)) w R = (R (upd (upd t 51 (.slice x n c)) 52 (.agg #[.int .i64 9,.string ⟨#[100,114,111,112]⟩,.slice x n c])) w) := by kernel_rfl
theorem st41 {t : Tm} {w wr : World} {R : Tm -> World -> Prop} {x : Option Addr} {n c : Nat} (h51 : t 51 = .slice x n c) (h : R (upd t 52 (.agg #[.int .i64 9,.string ⟨#[100,114,111,112]⟩,.slice x n c])) w) : stepAt Tryz.prog ops48.toList wr ms48 41 t w R := by
  have e := se41 (x := x) (n := n) (c := c) t w wr R
  rw [upd_same t 51 h51] at e
  rw [e]; exact h
theorem se42 (t : Tm) (w wr : World) (R : Tm -> World -> Prop)  : stepAt Tryz.prog ops48.toList wr ms48 42 t w R = (R (upd t 53 (t 3)) w) := by kernel_rfl
theorem st42 {t : Tm} {w wr : World} {R : Tm -> World -> Prop}   (h : R (upd t 53 (t 3)) w) : stepAt Tryz.prog ops48.toList wr ms48 42 t w R := by
  have e := se42  t w wr R
  skip
  rw [e]; exact h
theorem se43 (t : Tm) (w wr : World) (R : Tm -> World -> Prop) {x : Option Addr} {n c : Nat} : stepAt Tryz.prog ops48.toList wr ms48 43 (upd t 53 (.slice x n c)) w R = (R (upd (upd t 53 (.slice x n c)) 54 (.agg #[.int .i64 10,.string ⟨#[116,119,105,99,101]⟩,.slice x n c])) w) := by kernel_rfl
theorem st43 {t : Tm} {w wr : World} {R : Tm -> World -> Prop} {x : Option Addr} {n c : Nat} (h53 : t 53 = .slice x n c) (h : R (upd t 54 (.agg #[.int .i64 10,.string ⟨#[116,119,105,99,101]⟩,.slice x n c])) w) : stepAt Tryz.prog ops48.toList wr ms48 43 t w R := by
  have e := se43 (x := x) (n := n) (c := c) t w wr R
  rw [upd_same t 53 h53] at e
  rw [e]; exact h
theorem se44 (t : Tm) (w wr : World) (R : Tm -> World -> Prop)  : stepAt Tryz.prog ops48.toList wr ms48 44 t w R = (R (upd t 55 (t 3)) w) := by kernel_rfl
theorem st44 {t : Tm} {w wr : World} {R : Tm -> World -> Prop}   (h : R (upd t 55 (t 3)) w) : stepAt Tryz.prog ops48.toList wr ms48 44 t w R := by
  have e := se44  t w wr R
  skip
  rw [e]; exact h
theorem se45 (t : Tm) (w wr : World) (R : Tm -> World -> Prop)  : stepAt Tryz.prog ops48.toList wr ms48 45 t w R = (Calls Tryz.prog 78 #[t 55] w (en fun e w' => ∃ x n c,e = .returned (.slice x n c) /\ Pres wr w' /\ R (upd t 56 (.slice x n c)) w')) := by kernel_rfl
theorem st45 {t : Tm} {w wr : World} {R : Tm -> World -> Prop}   (h : Calls Tryz.prog 78 #[t 55] w (en fun e w' => ∃ x n c,e = .returned (.slice x n c) /\ Pres wr w' /\ R (upd t 56 (.slice x n c)) w')) : stepAt Tryz.prog ops48.toList wr ms48 45 t w R := by
  have e := se45  t w wr R
  skip
  rw [e]; exact h
theorem se46 (t : Tm) (w wr : World) (R : Tm -> World -> Prop) {a : Addr} : stepAt Tryz.prog ops48.toList wr ms48 46 (upd t 1 (.pointer (some a))) w R = (ldP (a.add 0) wr fun p => ldP (a.add 1) wr fun q => R (upd (upd t 1 (.pointer (some a))) 57 (.agg #[.pointer p,.pointer q])) w) := by kernel_rfl
theorem st46 {t : Tm} {w wr : World} {R : Tm -> World -> Prop} {a : Addr} (h1 : t 1 = .pointer (some a)) (h : ldP (a.add 0) wr fun p => ldP (a.add 1) wr fun q => R (upd t 57 (.agg #[.pointer p,.pointer q])) w) : stepAt Tryz.prog ops48.toList wr ms48 46 t w R := by
  have e := se46 (a := a) t w wr R
  rw [upd_same t 1 h1] at e
  rw [e]; exact h
theorem se47 (t : Tm) (w wr : World) (R : Tm -> World -> Prop)  : stepAt Tryz.prog ops48.toList wr ms48 47 t w R = (R (upd t 58 (.func (.func 79) #[t 57] #[])) w) := by kernel_rfl
theorem st47 {t : Tm} {w wr : World} {R : Tm -> World -> Prop}   (h : R (upd t 58 (.func (.func 79) #[t 57] #[])) w) : stepAt Tryz.prog ops48.toList wr ms48 47 t w R := by
  have e := se47  t w wr R
  skip
  rw [e]; exact h
theorem se48 (t : Tm) (w wr : World) (R : Tm -> World -> Prop) {a : Addr} : stepAt Tryz.prog ops48.toList wr ms48 48 (upd t 1 (.pointer (some a))) w R = (ldP (a.add 0) wr fun p => ldP (a.add 1) wr fun q => R (upd (upd t 1 (.pointer (some a))) 59 (.agg #[.pointer p,.pointer q])) w) := by kernel_rfl
theorem st48 {t : Tm} {w wr : World} {R : Tm -> World -> Prop} {a : Addr} (h1 : t 1 = .pointer (some a)) (h : ldP (a.add 0) wr fun p => ldP (a.add 1) wr fun q => R (upd t 59 (.agg #[.pointer p,.pointer q])) w) : stepAt Tryz.prog ops48.toList wr ms48 48 t w R := by
  have e := se48 (a := a) t w wr R
  rw [upd_same t 1 h1] at e
  rw [e]; exact h
theorem se49 (t : Tm) (w wr : World) (R : Tm -> World -> Prop)  : stepAt Tryz.prog ops48.toList wr ms48 49 t w R = (R (upd t 60 (.func (.func 80) #[t 59] #[])) w) := by kernel_rfl
theorem st49 {t : Tm} {w wr : World} {R : Tm -> World -> Prop}   (h : R (upd t 60 (.func (.func 80) #[t 59] #[])) w) : stepAt Tryz.prog ops48.toList wr ms48 49 t w R := by
  have e := se49  t w wr R
  skip
  rw [e]; exact h
theorem se50 (t : Tm) (w wr : World) (R : Tm -> World -> Prop) {x58 x60 : Value} : stepAt Tryz.prog ops48.toList wr ms48 50 (upd (upd t 58 (.func (.func 79) #[x58] #[])) 60 (.func (.func 80) #[x60] #[])) w R = (alc (.cells #[.func (.func 79) #[x58] #[],.func (.func 80) #[x60] #[]] 1) w fun b w' => Pres wr w' /\ R (upd (upd (upd t 58 (.func (.func 79) #[x58] #[])) 60 (.func (.func 80) #[x60] #[])) 61 (.slice (some (Addr.mk b 0 none)) 2 2)) w') := by kernel_rfl
theorem st50 {t : Tm} {w wr : World} {R : Tm -> World -> Prop} {x58 x60 : Value} (h58 : t 58 = .func (.func 79) #[x58] #[]) (h60 : t 60 = .func (.func 80) #[x60] #[]) (h : alc (.cells #[.func (.func 79) #[x58] #[],.func (.func 80) #[x60] #[]] 1) w fun b w' => Pres wr w' /\ R (upd t 61 (.slice (some (Addr.mk b 0 none)) 2 2)) w') : stepAt Tryz.prog ops48.toList wr ms48 50 t w R := by
  have e := se50 (x58 := x58) (x60 := x60) t w wr R
  rw [upd_same t 58 h58] at e
  rw [upd_same t 60 h60] at e
  rw [e]; exact h
theorem se51 (t : Tm) (w wr : World) (R : Tm -> World -> Prop)  : stepAt Tryz.prog ops48.toList wr ms48 51 t w R = (∃ x n c w',Sem.run Tryz.prog (Builtin.append_ #[84,84] 84 #[t 56,t 61]) w = .ok (.slice x n c) w' /\ Pres wr w' /\ R (upd t 62 (.slice x n c)) w') := by kernel_rfl
theorem st51 {t : Tm} {w wr : World} {R : Tm -> World -> Prop}   (h : ∃ x n c w',Sem.run Tryz.prog (Builtin.append_ #[84,84] 84 #[t 56,t 61]) w = .ok (.slice x n c) w' /\ Pres wr w' /\ R (upd t 62 (.slice x n c)) w') : stepAt Tryz.prog ops48.toList wr ms48 51 t w R := by
  have e := se51  t w wr R
  skip
  rw [e]; exact h
theorem se52 (t : Tm) (w wr : World) (R : Tm -> World -> Prop) {x : Option Addr} {n c : Nat} : stepAt Tryz.prog ops48.toList wr ms48 52 (upd t 62 (.slice x n c)) w R = (R (upd (upd t 62 (.slice x n c)) 63 (.agg #[.int .i64 11,.string ⟨#[115,112,111,105,108]⟩,.slice x n c])) w) := by kernel_rfl
theorem st52 {t : Tm} {w wr : World} {R : Tm -> World -> Prop} {x : Option Addr} {n c : Nat} (h62 : t 62 = .slice x n c) (h : R (upd t 63 (.agg #[.int .i64 11,.string ⟨#[115,112,111,105,108]⟩,.slice x n c])) w) : stepAt Tryz.prog ops48.toList wr ms48 52 t w R := by
  have e := se52 (x := x) (n := n) (c := c) t w wr R
  rw [upd_same t 62 h62] at e
  rw [e]; exact h
theorem se53 (t : Tm) (w wr : World) (R : Tm -> World -> Prop) {a : Addr} : stepAt Tryz.prog ops48.toList wr ms48 53 (upd t 1 (.pointer (some a))) w R = (ldP (a.add 0) wr fun p => ldP (a.add 1) wr fun q => R (upd (upd t 1 (.pointer (some a))) 64 (.agg #[.pointer p,.pointer q])) w) := by kernel_rfl
theorem st53 {t : Tm} {w wr : World} {R : Tm -> World -> Prop} {a : Addr} (h1 : t 1 = .pointer (some a)) (h : ldP (a.add 0) wr fun p => ldP (a.add 1) wr fun q => R (upd t 64 (.agg #[.pointer p,.pointer q])) w) : stepAt Tryz.prog ops48.toList wr ms48 53 t w R := by
  have e := se53 (a := a) t w wr R
  rw [upd_same t 1 h1] at e
  rw [e]; exact h
theorem se54 (t : Tm) (w wr : World) (R : Tm -> World -> Prop)  : stepAt Tryz.prog ops48.toList wr ms48 54 t w R = (R (upd t 65 (.func (.func 69) #[t 64] #[])) w) := by kernel_rfl
theorem st54 {t : Tm} {w wr : World} {R : Tm -> World -> Prop}   (h : R (upd t 65 (.func (.func 69) #[t 64] #[])) w) : stepAt Tryz.prog ops48.toList wr ms48 54 t w R := by
  have e := se54  t w wr R
  skip
  rw [e]; exact h
theorem se55 (t : Tm) (w wr : World) (R : Tm -> World -> Prop) {a : Addr} : stepAt Tryz.prog ops48.toList wr ms48 55 (upd t 1 (.pointer (some a))) w R = (ldP (a.add 0) wr fun p => ldP (a.add 1) wr fun q => R (upd (upd t 1 (.pointer (some a))) 66 (.agg #[.pointer p,.pointer q])) w) := by kernel_rfl
theorem st55 {t : Tm} {w wr : World} {R : Tm -> World -> Prop} {a : Addr} (h1 : t 1 = .pointer (some a)) (h : ldP (a.add 0) wr fun p => ldP (a.add 1) wr fun q => R (upd t 66 (.agg #[.pointer p,.pointer q])) w) : stepAt Tryz.prog ops48.toList wr ms48 55 t w R := by
  have e := se55 (a := a) t w wr R
  rw [upd_same t 1 h1] at e
  rw [e]; exact h
theorem se56 (t : Tm) (w wr : World) (R : Tm -> World -> Prop)  : stepAt Tryz.prog ops48.toList wr ms48 56 t w R = (R (upd t 67 (.func (.func 70) #[t 66] #[])) w) := by kernel_rfl
theorem st56 {t : Tm} {w wr : World} {R : Tm -> World -> Prop}   (h : R (upd t 67 (.func (.func 70) #[t 66] #[])) w) : stepAt Tryz.prog ops48.toList wr ms48 56 t w R := by
  have e := se56  t w wr R
  skip
  rw [e]; exact h
theorem se57 (t : Tm) (w wr : World) (R : Tm -> World -> Prop) {a : Addr} : stepAt Tryz.prog ops48.toList wr ms48 57 (upd t 1 (.pointer (some a))) w R = (ldP (a.add 0) wr fun p => ldP (a.add 1) wr fun q => R (upd (upd t 1 (.pointer (some a))) 68 (.agg #[.pointer p,.pointer q])) w) := by kernel_rfl
theorem st57 {t : Tm} {w wr : World} {R : Tm -> World -> Prop} {a : Addr} (h1 : t 1 = .pointer (some a)) (h : ldP (a.add 0) wr fun p => ldP (a.add 1) wr fun q => R (upd t 68 (.agg #[.pointer p,.pointer q])) w) : stepAt Tryz.prog ops48.toList wr ms48 57 t w R := by
  have e := se57 (a := a) t w wr R
  rw [upd_same t 1 h1] at e
  rw [e]; exact h
theorem se58 (t : Tm) (w wr : World) (R : Tm -> World -> Prop)  : stepAt Tryz.prog ops48.toList wr ms48 58 t w R = (R (upd t 69 (.func (.func 75) #[t 68] #[])) w) := by kernel_rfl
theorem st58 {t : Tm} {w wr : World} {R : Tm -> World -> Prop}   (h : R (upd t 69 (.func (.func 75) #[t 68] #[])) w) : stepAt Tryz.prog ops48.toList wr ms48 58 t w R := by
  have e := se58  t w wr R
  skip
  rw [e]; exact h
theorem se59 (t : Tm) (w wr : World) (R : Tm -> World -> Prop) {x65 x67 x69 : Value} : stepAt Tryz.prog ops48.toList wr ms48 59 (upd (upd (upd t 65 (.func (.func 69) #[x65] #[])) 67 (.func (.func 70) #[x67] #[])) 69 (.func (.func 75) #[x69] #[])) w R = (alc (.cells #[.func (.func 69) #[x65] #[],.func (.func 70) #[x67] #[],.func (.func 75) #[x69] #[]] 1) w fun b w' => Pres wr w' /\ R (upd (upd (upd (upd t 65 (.func (.func 69) #[x65] #[])) 67 (.func (.func 70) #[x67] #[])) 69 (.func (.func 75) #[x69] #[])) 70 (.slice (some (Addr.mk b 0 none)) 3 3)) w') := by kernel_rfl
theorem st59 {t : Tm} {w wr : World} {R : Tm -> World -> Prop} {x65 x67 x69 : Value} (h65 : t 65 = .func (.func 69) #[x65] #[]) (h67 : t 67 = .func (.func 70) #[x67] #[]) (h69 : t 69 = .func (.func 75) #[x69] #[]) (h : alc (.cells #[.func (.func 69) #[x65] #[],.func (.func 70) #[x67] #[],.func (.func 75) #[x69] #[]] 1) w fun b w' => Pres wr w' /\ R (upd t 70 (.slice (some (Addr.mk b 0 none)) 3 3)) w') : stepAt Tryz.prog ops48.toList wr ms48 59 t w R := by
  have e := se59 (x65 := x65) (x67 := x67) (x69 := x69) t w wr R
  rw [upd_same t 65 h65] at e
  rw [upd_same t 67 h67] at e
  rw [upd_same t 69 h69] at e
  rw [e]; exact h
theorem se60 (t : Tm) (w wr : World) (R : Tm -> World -> Prop) {x : Option Addr} {n c : Nat} : stepAt Tryz.prog ops48.toList wr ms48 60 (upd t 70 (.slice x n c)) w R = (R (upd (upd t 70 (.slice x n c)) 71 (.agg #[.int .i64 12,.string ⟨#[102,111,114,103,101]⟩,.slice x n c])) w) := by kernel_rfl
theorem st60 {t : Tm} {w wr : World} {R : Tm -> World -> Prop} {x : Option Addr} {n c : Nat} (h70 : t 70 = .slice x n c) (h : R (upd t 71 (.agg #[.int .i64 12,.string ⟨#[102,111,114,103,101]⟩,.slice x n c])) w) : stepAt Tryz.prog ops48.toList wr ms48 60 t w R := by
  have e := se60 (x := x) (n := n) (c := c) t w wr R
  rw [upd_same t 70 h70] at e
  rw [e]; exact h
theorem se61 (t : Tm) (w wr : World) (R : Tm -> World -> Prop) {a : Addr} : stepAt Tryz.prog ops48.toList wr ms48 61 (upd t 1 (.pointer (some a))) w R = (ldP (a.add 0) wr fun p => ldP (a.add 1) wr fun q => R (upd (upd t 1 (.pointer (some a))) 72 (.agg #[.pointer p,.pointer q])) w) := by kernel_rfl
theorem st61 {t : Tm} {w wr : World} {R : Tm -> World -> Prop} {a : Addr} (h1 : t 1 = .pointer (some a)) (h : ldP (a.add 0) wr fun p => ldP (a.add 1) wr fun q => R (upd t 72 (.agg #[.pointer p,.pointer q])) w) : stepAt Tryz.prog ops48.toList wr ms48 61 t w R := by
  have e := se61 (a := a) t w wr R
  rw [upd_same t 1 h1] at e
  rw [e]; exact h
theorem se62 (t : Tm) (w wr : World) (R : Tm -> World -> Prop)  : stepAt Tryz.prog ops48.toList wr ms48 62 t w R = (R (upd t 73 (.func (.func 70) #[t 72] #[])) w) := by kernel_rfl
theorem st62 {t : Tm} {w wr : World} {R : Tm -> World -> Prop}   (h : R (upd t 73 (.func (.func 70) #[t 72] #[])) w) : stepAt Tryz.prog ops48.toList wr ms48 62 t w R := by
  have e := se62  t w wr R
  skip
  rw [e]; exact h
theorem se63 (t : Tm) (w wr : World) (R : Tm -> World -> Prop) {x73 : Value} : stepAt Tryz.prog ops48.toList wr ms48 63 (upd t 73 (.func (.func 70) #[x73] #[])) w R = (alc (.cells #[.func (.func 70) #[x73] #[]] 1) w fun b w' => Pres wr w' /\ R (upd (upd t 73 (.func (.func 70) #[x73] #[])) 74 (.slice (some (Addr.mk b 0 none)) 1 1)) w') := by kernel_rfl
theorem st63 {t : Tm} {w wr : World} {R : Tm -> World -> Prop} {x73 : Value} (h73 : t 73 = .func (.func 70) #[x73] #[]) (h : alc (.cells #[.func (.func 70) #[x73] #[]] 1) w fun b w' => Pres wr w' /\ R (upd t 74 (.slice (some (Addr.mk b 0 none)) 1 1)) w') : stepAt Tryz.prog ops48.toList wr ms48 63 t w R := by
  have e := se63 (x73 := x73) t w wr R
  rw [upd_same t 73 h73] at e
  rw [e]; exact h
theorem se64 (t : Tm) (w wr : World) (R : Tm -> World -> Prop) {x : Option Addr} {n c : Nat} : stepAt Tryz.prog ops48.toList wr ms48 64 (upd t 74 (.slice x n c)) w R = (R (upd (upd t 74 (.slice x n c)) 75 (.agg #[.int .i64 13,.string ⟨#[100,111,119,110]⟩,.slice x n c])) w) := by kernel_rfl
theorem st64 {t : Tm} {w wr : World} {R : Tm -> World -> Prop} {x : Option Addr} {n c : Nat} (h74 : t 74 = .slice x n c) (h : R (upd t 75 (.agg #[.int .i64 13,.string ⟨#[100,111,119,110]⟩,.slice x n c])) w) : stepAt Tryz.prog ops48.toList wr ms48 64 t w R := by
  have e := se64 (x := x) (n := n) (c := c) t w wr R
  rw [upd_same t 74 h74] at e
  rw [e]; exact h
theorem se65 (t : Tm) (w wr : World) (R : Tm -> World -> Prop) {a : Addr} : stepAt Tryz.prog ops48.toList wr ms48 65 (upd t 1 (.pointer (some a))) w R = (ldP (a.add 0) wr fun p => ldP (a.add 1) wr fun q => R (upd (upd t 1 (.pointer (some a))) 76 (.agg #[.pointer p,.pointer q])) w) := by kernel_rfl
theorem st65 {t : Tm} {w wr : World} {R : Tm -> World -> Prop} {a : Addr} (h1 : t 1 = .pointer (some a)) (h : ldP (a.add 0) wr fun p => ldP (a.add 1) wr fun q => R (upd t 76 (.agg #[.pointer p,.pointer q])) w) : stepAt Tryz.prog ops48.toList wr ms48 65 t w R := by
  have e := se65 (a := a) t w wr R
  rw [upd_same t 1 h1] at e
  rw [e]; exact h
theorem se66 (t : Tm) (w wr : World) (R : Tm -> World -> Prop)  : stepAt Tryz.prog ops48.toList wr ms48 66 t w R = (R (upd t 77 (.func (.func 70) #[t 76] #[])) w) := by kernel_rfl
theorem st66 {t : Tm} {w wr : World} {R : Tm -> World -> Prop}   (h : R (upd t 77 (.func (.func 70) #[t 76] #[])) w) : stepAt Tryz.prog ops48.toList wr ms48 66 t w R := by
  have e := se66  t w wr R
  skip
  rw [e]; exact h
theorem se67 (t : Tm) (w wr : World) (R : Tm -> World -> Prop) {x77 : Value} : stepAt Tryz.prog ops48.toList wr ms48 67 (upd t 77 (.func (.func 70) #[x77] #[])) w R = (alc (.cells #[.func (.func 70) #[x77] #[]] 1) w fun b w' => Pres wr w' /\ R (upd (upd t 77 (.func (.func 70) #[x77] #[])) 78 (.slice (some (Addr.mk b 0 none)) 1 1)) w') := by kernel_rfl
theorem st67 {t : Tm} {w wr : World} {R : Tm -> World -> Prop} {x77 : Value} (h77 : t 77 = .func (.func 70) #[x77] #[]) (h : alc (.cells #[.func (.func 70) #[x77] #[]] 1) w fun b w' => Pres wr w' /\ R (upd t 78 (.slice (some (Addr.mk b 0 none)) 1 1)) w') : stepAt Tryz.prog ops48.toList wr ms48 67 t w R := by
  have e := se67 (x77 := x77) t w wr R
  rw [upd_same t 77 h77] at e
  rw [e]; exact h
theorem se68 (t : Tm) (w wr : World) (R : Tm -> World -> Prop) {x : Option Addr} {n c : Nat} : stepAt Tryz.prog ops48.toList wr ms48 68 (upd t 78 (.slice x n c)) w R = (R (upd (upd t 78 (.slice x n c)) 79 (.agg #[.int .i64 14,.string ⟨#[117,112]⟩,.slice x n c])) w) := by kernel_rfl
theorem st68 {t : Tm} {w wr : World} {R : Tm -> World -> Prop} {x : Option Addr} {n c : Nat} (h78 : t 78 = .slice x n c) (h : R (upd t 79 (.agg #[.int .i64 14,.string ⟨#[117,112]⟩,.slice x n c])) w) : stepAt Tryz.prog ops48.toList wr ms48 68 t w R := by
  have e := se68 (x := x) (n := n) (c := c) t w wr R
  rw [upd_same t 78 h78] at e
  rw [e]; exact h
theorem se69 (t : Tm) (w wr : World) (R : Tm -> World -> Prop) {x14 x26 x30 x34 x40 x44 x48 x50 x52 x54 x63 x71 x75 x79 : Option Addr} {n14 c14 n26 c26 n30 c30 n34 c34 n40 c40 n44 c44 n48 c48 n50 c50 n52 c52 n54 c54 n63 c63 n71 c71 n75 c75 n79 c79 : Nat} : stepAt Tryz.prog ops48.toList wr ms48 69 (upd (upd (upd (upd (upd (upd (upd (upd (upd (upd (upd (upd (upd (upd t 14 (.agg #[.int .i64 1,.string ⟨#[111,112,101,110]⟩,.slice x14 n14 c14])) 26 (.agg #[.int .i64 2,.string ⟨#[115,101,110,100]⟩,.slice x26 n26 c26])) 30 (.agg #[.int .i64 3,.string ⟨#[114,101,99,101,105,118,101]⟩,.slice x30 n30 c30])) 34 (.agg #[.int .i64 4,.string ⟨#[115,104,117,116,100,111,119,110]⟩,.slice x34 n34 c34])) 40 (.agg #[.int .i64 5,.string ⟨#[97,98,111,114,116]⟩,.slice x40 n40 c40])) 44 (.agg #[.int .i64 6,.string ⟨#[116,105,99,107]⟩,.slice x44 n44 c44])) 48 (.agg #[.int .i64 7,.string ⟨#[99,108,111,99,107]⟩,.slice x48 n48 c48])) 50 (.agg #[.int .i64 8,.string ⟨#[100,101,108,105,118,101,114]⟩,.slice x50 n50 c50])) 52 (.agg #[.int .i64 9,.string ⟨#[100,114,111,112]⟩,.slice x52 n52 c52])) 54 (.agg #[.int .i64 10,.string ⟨#[116,119,105,99,101]⟩,.slice x54 n54 c54])) 63 (.agg #[.int .i64 11,.string ⟨#[115,112,111,105,108]⟩,.slice x63 n63 c63])) 71 (.agg #[.int .i64 12,.string ⟨#[102,111,114,103,101]⟩,.slice x71 n71 c71])) 75 (.agg #[.int .i64 13,.string ⟨#[100,111,119,110]⟩,.slice x75 n75 c75])) 79 (.agg #[.int .i64 14,.string ⟨#[117,112]⟩,.slice x79 n79 c79])) w R = (alc (.cells #[.int .i64 1,.string ⟨#[111,112,101,110]⟩,.slice x14 n14 c14,.int .i64 2,.string ⟨#[115,101,110,100]⟩,.slice x26 n26 c26,.int .i64 3,.string ⟨#[114,101,99,101,105,118,101]⟩,.slice x30 n30 c30,.int .i64 4,.string ⟨#[115,104,117,116,100,111,119,110]⟩,.slice x34 n34 c34,.int .i64 5,.string ⟨#[97,98,111,114,116]⟩,.slice x40 n40 c40,.int .i64 6,.string ⟨#[116,105,99,107]⟩,.slice x44 n44 c44,.int .i64 7,.string ⟨#[99,108,111,99,107]⟩,.slice x48 n48 c48,.int .i64 8,.string ⟨#[100,101,108,105,118,101,114]⟩,.slice x50 n50 c50,.int .i64 9,.string ⟨#[100,114,111,112]⟩,.slice x52 n52 c52,.int .i64 10,.string ⟨#[116,119,105,99,101]⟩,.slice x54 n54 c54,.int .i64 11,.string ⟨#[115,112,111,105,108]⟩,.slice x63 n63 c63,.int .i64 12,.string ⟨#[102,111,114,103,101]⟩,.slice x71 n71 c71,.int .i64 13,.string ⟨#[100,111,119,110]⟩,.slice x75 n75 c75,.int .i64 14,.string ⟨#[117,112]⟩,.slice x79 n79 c79] 86) w fun b w' => R (upd (upd (upd (upd (upd (upd (upd (upd (upd (upd (upd (upd (upd (upd (upd t 14 (.agg #[.int .i64 1,.string ⟨#[111,112,101,110]⟩,.slice x14 n14 c14])) 26 (.agg #[.int .i64 2,.string ⟨#[115,101,110,100]⟩,.slice x26 n26 c26])) 30 (.agg #[.int .i64 3,.string ⟨#[114,101,99,101,105,118,101]⟩,.slice x30 n30 c30])) 34 (.agg #[.int .i64 4,.string ⟨#[115,104,117,116,100,111,119,110]⟩,.slice x34 n34 c34])) 40 (.agg #[.int .i64 5,.string ⟨#[97,98,111,114,116]⟩,.slice x40 n40 c40])) 44 (.agg #[.int .i64 6,.string ⟨#[116,105,99,107]⟩,.slice x44 n44 c44])) 48 (.agg #[.int .i64 7,.string ⟨#[99,108,111,99,107]⟩,.slice x48 n48 c48])) 50 (.agg #[.int .i64 8,.string ⟨#[100,101,108,105,118,101,114]⟩,.slice x50 n50 c50])) 52 (.agg #[.int .i64 9,.string ⟨#[100,114,111,112]⟩,.slice x52 n52 c52])) 54 (.agg #[.int .i64 10,.string ⟨#[116,119,105,99,101]⟩,.slice x54 n54 c54])) 63 (.agg #[.int .i64 11,.string ⟨#[115,112,111,105,108]⟩,.slice x63 n63 c63])) 71 (.agg #[.int .i64 12,.string ⟨#[102,111,114,103,101]⟩,.slice x71 n71 c71])) 75 (.agg #[.int .i64 13,.string ⟨#[100,111,119,110]⟩,.slice x75 n75 c75])) 79 (.agg #[.int .i64 14,.string ⟨#[117,112]⟩,.slice x79 n79 c79])) 80 (.slice (some (Addr.mk b 0 none)) 14 14)) w') := by kernel_rfl
theorem st69 {t : Tm} {w wr : World} {R : Tm -> World -> Prop} {x14 x26 x30 x34 x40 x44 x48 x50 x52 x54 x63 x71 x75 x79 : Option Addr} {n14 c14 n26 c26 n30 c30 n34 c34 n40 c40 n44 c44 n48 c48 n50 c50 n52 c52 n54 c54 n63 c63 n71 c71 n75 c75 n79 c79 : Nat} (h14 : t 14 = .agg #[.int .i64 1,.string ⟨#[111,112,101,110]⟩,.slice x14 n14 c14]) (h26 : t 26 = .agg #[.int .i64 2,.string ⟨#[115,101,110,100]⟩,.slice x26 n26 c26]) (h30 : t 30 = .agg #[.int .i64 3,.string ⟨#[114,101,99,101,105,118,101]⟩,.slice x30 n30 c30]) (h34 : t 34 = .agg #[.int .i64 4,.string ⟨#[115,104,117,116,100,111,119,110]⟩,.slice x34 n34 c34]) (h40 : t 40 = .agg #[.int .i64 5,.string ⟨#[97,98,111,114,116]⟩,.slice x40 n40 c40]) (h44 : t 44 = .agg #[.int .i64 6,.string ⟨#[116,105,99,107]⟩,.slice x44 n44 c44]) (h48 : t 48 = .agg #[.int .i64 7,.string ⟨#[99,108,111,99,107]⟩,.slice x48 n48 c48]) (h50 : t 50 = .agg #[.int .i64 8,.string ⟨#[100,101,108,105,118,101,114]⟩,.slice x50 n50 c50]) (h52 : t 52 = .agg #[.int .i64 9,.string ⟨#[100,114,111,112]⟩,.slice x52 n52 c52]) (h54 : t 54 = .agg #[.int .i64 10,.string ⟨#[116,119,105,99,101]⟩,.slice x54 n54 c54]) (h63 : t 63 = .agg #[.int .i64 11,.string ⟨#[115,112,111,105,108]⟩,.slice x63 n63 c63]) (h71 : t 71 = .agg #[.int .i64 12,.string ⟨#[102,111,114,103,101]⟩,.slice x71 n71 c71]) (h75 : t 75 = .agg #[.int .i64 13,.string ⟨#[100,111,119,110]⟩,.slice x75 n75 c75]) (h79 : t 79 = .agg #[.int .i64 14,.string ⟨#[117,112]⟩,.slice x79 n79 c79]) (h : alc (.cells #[.int .i64 1,.string ⟨#[111,112,101,110]⟩,.slice x14 n14 c14,.int .i64 2,.string ⟨#[115,101,110,100]⟩,.slice x26 n26 c26,.int .i64 3,.string ⟨#[114,101,99,101,105,118,101]⟩,.slice x30 n30 c30,.int .i64 4,.string ⟨#[115,104,117,116,100,111,119,110]⟩,.slice x34 n34 c34,.int .i64 5,.string ⟨#[97,98,111,114,116]⟩,.slice x40 n40 c40,.int .i64 6,.string ⟨#[116,105,99,107]⟩,.slice x44 n44 c44,.int .i64 7,.string ⟨#[99,108,111,99,107]⟩,.slice x48 n48 c48,.int .i64 8,.string ⟨#[100,101,108,105,118,101,114]⟩,.slice x50 n50 c50,.int .i64 9,.string ⟨#[100,114,111,112]⟩,.slice x52 n52 c52,.int .i64 10,.string ⟨#[116,119,105,99,101]⟩,.slice x54 n54 c54,.int .i64 11,.string ⟨#[115,112,111,105,108]⟩,.slice x63 n63 c63,.int .i64 12,.string ⟨#[102,111,114,103,101]⟩,.slice x71 n71 c71,.int .i64 13,.string ⟨#[100,111,119,110]⟩,.slice x75 n75 c75,.int .i64 14,.string ⟨#[117,112]⟩,.slice x79 n79 c79] 86) w fun b w' => R (upd t 80 (.slice (some (Addr.mk b 0 none)) 14 14)) w') : stepAt Tryz.prog ops48.toList wr ms48 69 t w R := by
  have e := se69 (x14 := x14) (x26 := x26) (x30 := x30) (x34 := x34) (x40 := x40) (x44 := x44) (x48 := x48) (x50 := x50) (x52 := x52) (x54 := x54) (x63 := x63) (x71 := x71) (x75 := x75) (x79 := x79) (n14 := n14) (c14 := c14) (n26 := n26) (c26 := c26) (n30 := n30) (c30 := c30) (n34 := n34) (c34 := c34) (n40 := n40) (c40 := c40) (n44 := n44) (c44 := c44) (n48 := n48) (c48 := c48) (n50 := n50) (c50 := c50) (n52 := n52) (c52 := c52) (n54 := n54) (c54 := c54) (n63 := n63) (c63 := c63) (n71 := n71) (c71 := c71) (n75 := n75) (c75 := c75) (n79 := n79) (c79 := c79) t w wr R
  rw [upd_same t 14 h14] at e
  rw [upd_same t 26 h26] at e
  rw [upd_same t 30 h30] at e
  rw [upd_same t 34 h34] at e
  rw [upd_same t 40 h40] at e
  rw [upd_same t 44 h44] at e
  rw [upd_same t 48 h48] at e
  rw [upd_same t 50 h50] at e
  rw [upd_same t 52 h52] at e
  rw [upd_same t 54 h54] at e
  rw [upd_same t 63 h63] at e
  rw [upd_same t 71 h71] at e
  rw [upd_same t 75 h75] at e
  rw [upd_same t 79 h79] at e
  rw [e]; exact h
theorem se70 (t : Tm) (w wr : World) (R : Tm -> World -> Prop)  : stepAt Tryz.prog ops48.toList wr ms48 70 t w R = (R (upd t 2 (t 80)) w) := by kernel_rfl
theorem st70 {t : Tm} {w wr : World} {R : Tm -> World -> Prop}   (h : R (upd t 2 (t 80)) w) : stepAt Tryz.prog ops48.toList wr ms48 70 t w R := by
  have e := se70  t w wr R
  skip
  rw [e]; exact h
end Go.Proofs.YtilenpnpnbdndaaGreatDoor
