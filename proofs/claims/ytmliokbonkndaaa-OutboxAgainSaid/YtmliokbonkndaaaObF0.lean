/- Own text: part of the shallow reading of the code and of the contracts that are proved over it. -/
import Derived.Test.YtmliokbonkndaaaShO
import Derived.Test.YtmliokbonkndaaaProg
import Derived.KernelRfl
namespace Go.Proofs.Ytmliokbonkndaaa
open Go Go.Sh
set_option maxRecDepth 100000
theorem mixed : Try.prog.follows .mixedOrders = true := by kernel_rfl
structure R40 where
  f0 : Int
  f1 : Int
  f2 : Int
  f3 : Bool
  f4a : Option Addr
  f4n : Nat
  f4c : Nat
  f5 : Bool
  f6 : Bool
def R40.l (s : R40) : List Value := [.int .u16 s.f0, .int .u16 s.f1, .int .u32 s.f2, .bool s.f3, .slice s.f4a s.f4n s.f4c, .bool s.f5, .bool s.f6]
def R40.c (s : R40) : Array Value := #[.int .u16 s.f0, .int .u16 s.f1, .int .u32 s.f2, .bool s.f3, .slice s.f4a s.f4n s.f4c, .bool s.f5, .bool s.f6]
def R40.v (s : R40) : Value := .agg #[.int .u16 s.f0, .int .u16 s.f1, .int .u32 s.f2, .bool s.f3, .slice s.f4a s.f4n s.f4c, .bool s.f5, .bool s.f6]
def ldR40 (a : Addr) (w : World) (K : R40 → Prop) : Prop := ldI .u16 (a.add 0) w fun f0 => ldI .u16 (a.add 1) w fun f1 => ldI .u32 (a.add 2) w fun f2 => ldB (a.add 3) w fun f3 => ldC (a.add 4) w fun f4a f4n f4c => ldB (a.add 5) w fun f5 => ldB (a.add 6) w fun f6 => K ⟨f0, f1, f2, f3, f4a, f4n, f4c, f5, f6⟩
def exR40 (K : R40 → Prop) : Prop := ∃ f0 f1 f2 f3 f4a f4n f4c f5 f6, K ⟨f0, f1, f2, f3, f4a, f4n, f4c, f5, f6⟩
theorem exR40_of {K : R40 → Prop} (s : R40) (k : K s) : exR40 K := ⟨s.f0, s.f1, s.f2, s.f3, s.f4a, s.f4n, s.f4c, s.f5, s.f6, k⟩
theorem ldR40_of {a : Addr} {w : World} {s : R40} {K : R40 → Prop} (h : At w a s.l) (k : K s) : ldR40 a w K := (ldI_c (h 0 _ rfl) (ldI_c (h 1 _ rfl) (ldI_c (h 2 _ rfl) (ldB_c (h 3 _ rfl) (ldC_c (h 4 _ rfl) (ldB_c (h 5 _ rfl) (ldB_c (h 6 _ rfl) k)))))))
def R40.z : R40 := ⟨0, 0, 0, false, none, 0, 0, false, false⟩
theorem R40.c_size (s : R40) : s.c.size = 7 := rfl
theorem R40.l_len (s : R40) : s.l.length = 7 := rfl
theorem R40.c_list (s : R40) : s.c.toList = s.l := rfl
structure R30 where
  f0 : Int
  f1 : Int
  f2 : Int
  f3 : Int
  f4 : Int
  f5 : Int
  f6 : Int
  f7 : Int
  f8 : Int
  f9 : Int
  f10a : Option Addr
  f10n : Nat
  f10c : Nat
  f11a : Option Addr
  f11n : Nat
  f11c : Nat
  f12a : Option Addr
  f12n : Nat
  f12c : Nat
  f13a : Option Addr
  f13n : Nat
  f13c : Nat
  f14a : Option Addr
  f14n : Nat
  f14c : Nat
def R30.l (s : R30) : List Value := [.int .u8 s.f0, .int .u8 s.f1, .int .u32 s.f2, .int .u16 s.f3, .int .u16 s.f4, .int .u32 s.f5, .int .u32 s.f6, .int .u32 s.f7, .int .u16 s.f8, .int .u16 s.f9, .slice s.f10a s.f10n s.f10c, .slice s.f11a s.f11n s.f11c, .slice s.f12a s.f12n s.f12c, .slice s.f13a s.f13n s.f13c, .slice s.f14a s.f14n s.f14c]
def R30.c (s : R30) : Array Value := #[.int .u8 s.f0, .int .u8 s.f1, .int .u32 s.f2, .int .u16 s.f3, .int .u16 s.f4, .int .u32 s.f5, .int .u32 s.f6, .int .u32 s.f7, .int .u16 s.f8, .int .u16 s.f9, .slice s.f10a s.f10n s.f10c, .slice s.f11a s.f11n s.f11c, .slice s.f12a s.f12n s.f12c, .slice s.f13a s.f13n s.f13c, .slice s.f14a s.f14n s.f14c]
def R30.v (s : R30) : Value := .agg #[.int .u8 s.f0, .int .u8 s.f1, .int .u32 s.f2, .int .u16 s.f3, .int .u16 s.f4, .int .u32 s.f5, .int .u32 s.f6, .int .u32 s.f7, .int .u16 s.f8, .int .u16 s.f9, .slice s.f10a s.f10n s.f10c, .slice s.f11a s.f11n s.f11c, .slice s.f12a s.f12n s.f12c, .slice s.f13a s.f13n s.f13c, .slice s.f14a s.f14n s.f14c]
def ldR30 (a : Addr) (w : World) (K : R30 → Prop) : Prop := ldI .u8 (a.add 0) w fun f0 => ldI .u8 (a.add 1) w fun f1 => ldI .u32 (a.add 2) w fun f2 => ldI .u16 (a.add 3) w fun f3 => ldI .u16 (a.add 4) w fun f4 => ldI .u32 (a.add 5) w fun f5 => ldI .u32 (a.add 6) w fun f6 => ldI .u32 (a.add 7) w fun f7 => ldI .u16 (a.add 8) w fun f8 => ldI .u16 (a.add 9) w fun f9 => ldC (a.add 10) w fun f10a f10n f10c => ldC (a.add 11) w fun f11a f11n f11c => ldC (a.add 12) w fun f12a f12n f12c => ldC (a.add 13) w fun f13a f13n f13c => ldC (a.add 14) w fun f14a f14n f14c => K ⟨f0, f1, f2, f3, f4, f5, f6, f7, f8, f9, f10a, f10n, f10c, f11a, f11n, f11c, f12a, f12n, f12c, f13a, f13n, f13c, f14a, f14n, f14c⟩
def exR30 (K : R30 → Prop) : Prop := ∃ f0 f1 f2 f3 f4 f5 f6 f7 f8 f9 f10a f10n f10c f11a f11n f11c f12a f12n f12c f13a f13n f13c f14a f14n f14c, K ⟨f0, f1, f2, f3, f4, f5, f6, f7, f8, f9, f10a, f10n, f10c, f11a, f11n, f11c, f12a, f12n, f12c, f13a, f13n, f13c, f14a, f14n, f14c⟩
theorem exR30_of {K : R30 → Prop} (s : R30) (k : K s) : exR30 K := ⟨s.f0, s.f1, s.f2, s.f3, s.f4, s.f5, s.f6, s.f7, s.f8, s.f9, s.f10a, s.f10n, s.f10c, s.f11a, s.f11n, s.f11c, s.f12a, s.f12n, s.f12c, s.f13a, s.f13n, s.f13c, s.f14a, s.f14n, s.f14c, k⟩
theorem ldR30_of {a : Addr} {w : World} {s : R30} {K : R30 → Prop} (h : At w a s.l) (k : K s) : ldR30 a w K := (ldI_c (h 0 _ rfl) (ldI_c (h 1 _ rfl) (ldI_c (h 2 _ rfl) (ldI_c (h 3 _ rfl) (ldI_c (h 4 _ rfl) (ldI_c (h 5 _ rfl) (ldI_c (h 6 _ rfl) (ldI_c (h 7 _ rfl) (ldI_c (h 8 _ rfl) (ldI_c (h 9 _ rfl) (ldC_c (h 10 _ rfl) (ldC_c (h 11 _ rfl) (ldC_c (h 12 _ rfl) (ldC_c (h 13 _ rfl) (ldC_c (h 14 _ rfl) k)))))))))))))))
def R30.z : R30 := ⟨0, 0, 0, 0, 0, 0, 0, 0, 0, 0, none, 0, 0, none, 0, 0, none, 0, 0, none, 0, 0, none, 0, 0⟩
theorem R30.c_size (s : R30) : s.c.size = 15 := rfl
theorem R30.l_len (s : R30) : s.l.length = 15 := rfl
theorem R30.c_list (s : R30) : s.c.toList = s.l := rfl
structure R47 where
  f0a : Option Addr
  f0n : Nat
  f0c : Nat
  f1 : Int
  f2 : Int
def R47.l (s : R47) : List Value := [.slice s.f0a s.f0n s.f0c, .int .i64 s.f1, .int .i64 s.f2]
def R47.c (s : R47) : Array Value := #[.slice s.f0a s.f0n s.f0c, .int .i64 s.f1, .int .i64 s.f2]
def R47.v (s : R47) : Value := .agg #[.slice s.f0a s.f0n s.f0c, .int .i64 s.f1, .int .i64 s.f2]
def ldR47 (a : Addr) (w : World) (K : R47 → Prop) : Prop := ldC (a.add 0) w fun f0a f0n f0c => ldI .i64 (a.add 1) w fun f1 => ldI .i64 (a.add 2) w fun f2 => K ⟨f0a, f0n, f0c, f1, f2⟩
def exR47 (K : R47 → Prop) : Prop := ∃ f0a f0n f0c f1 f2, K ⟨f0a, f0n, f0c, f1, f2⟩
theorem exR47_of {K : R47 → Prop} (s : R47) (k : K s) : exR47 K := ⟨s.f0a, s.f0n, s.f0c, s.f1, s.f2, k⟩
theorem ldR47_of {a : Addr} {w : World} {s : R47} {K : R47 → Prop} (h : At w a s.l) (k : K s) : ldR47 a w K := (ldC_c (h 0 _ rfl) (ldI_c (h 1 _ rfl) (ldI_c (h 2 _ rfl) k)))
def R47.z : R47 := ⟨none, 0, 0, 0, 0⟩
theorem R47.c_size (s : R47) : s.c.size = 3 := rfl
theorem R47.l_len (s : R47) : s.l.length = 3 := rfl
theorem R47.c_list (s : R47) : s.c.toList = s.l := rfl
structure R52 where
  f0 : Int
  f1 : Bool
  f2 : Int
  f3 : Int
def R52.l (s : R52) : List Value := [.int .i64 s.f0, .bool s.f1, .int .i64 s.f2, .int .i64 s.f3]
def R52.c (s : R52) : Array Value := #[.int .i64 s.f0, .bool s.f1, .int .i64 s.f2, .int .i64 s.f3]
def R52.v (s : R52) : Value := .agg #[.int .i64 s.f0, .bool s.f1, .int .i64 s.f2, .int .i64 s.f3]
def ldR52 (a : Addr) (w : World) (K : R52 → Prop) : Prop := ldI .i64 (a.add 0) w fun f0 => ldB (a.add 1) w fun f1 => ldI .i64 (a.add 2) w fun f2 => ldI .i64 (a.add 3) w fun f3 => K ⟨f0, f1, f2, f3⟩
def exR52 (K : R52 → Prop) : Prop := ∃ f0 f1 f2 f3, K ⟨f0, f1, f2, f3⟩
theorem exR52_of {K : R52 → Prop} (s : R52) (k : K s) : exR52 K := ⟨s.f0, s.f1, s.f2, s.f3, k⟩
theorem ldR52_of {a : Addr} {w : World} {s : R52} {K : R52 → Prop} (h : At w a s.l) (k : K s) : ldR52 a w K := (ldI_c (h 0 _ rfl) (ldB_c (h 1 _ rfl) (ldI_c (h 2 _ rfl) (ldI_c (h 3 _ rfl) k))))
def R52.z : R52 := ⟨0, false, 0, 0⟩
theorem R52.c_size (s : R52) : s.c.size = 4 := rfl
theorem R52.l_len (s : R52) : s.l.length = 4 := rfl
theorem R52.c_list (s : R52) : s.c.toList = s.l := rfl
structure R57 where
  f0 : Int
  f1 : Int
  f2 : Int
  f3 : Int
  f4 : Int
  f5 : Bool
  f6 : Int
  f7 : Int
  f8 : Int
  f9 : Int
  f10 : Bool
  f11a : Option Addr
  f11n : Nat
  f11c : Nat
  f12 : Bool
  f13 : Bool
def R57.l (s : R57) : List Value := [.int .u32 s.f0, .int .i64 s.f1, .int .i64 s.f2, .int .i64 s.f3, .int .i64 s.f4, .bool s.f5, .int .i64 s.f6, .int .u16 s.f7, .int .u16 s.f8, .int .u32 s.f9, .bool s.f10, .slice s.f11a s.f11n s.f11c, .bool s.f12, .bool s.f13]
def R57.c (s : R57) : Array Value := #[.int .u32 s.f0, .int .i64 s.f1, .int .i64 s.f2, .int .i64 s.f3, .int .i64 s.f4, .bool s.f5, .int .i64 s.f6, .int .u16 s.f7, .int .u16 s.f8, .int .u32 s.f9, .bool s.f10, .slice s.f11a s.f11n s.f11c, .bool s.f12, .bool s.f13]
def R57.v (s : R57) : Value := .agg #[.int .u32 s.f0, .int .i64 s.f1, .int .i64 s.f2, .int .i64 s.f3, .int .i64 s.f4, .bool s.f5, .int .i64 s.f6, .int .u16 s.f7, .int .u16 s.f8, .int .u32 s.f9, .bool s.f10, .slice s.f11a s.f11n s.f11c, .bool s.f12, .bool s.f13]
def ldR57 (a : Addr) (w : World) (K : R57 → Prop) : Prop := ldI .u32 (a.add 0) w fun f0 => ldI .i64 (a.add 1) w fun f1 => ldI .i64 (a.add 2) w fun f2 => ldI .i64 (a.add 3) w fun f3 => ldI .i64 (a.add 4) w fun f4 => ldB (a.add 5) w fun f5 => ldI .i64 (a.add 6) w fun f6 => ldI .u16 (a.add 7) w fun f7 => ldI .u16 (a.add 8) w fun f8 => ldI .u32 (a.add 9) w fun f9 => ldB (a.add 10) w fun f10 => ldC (a.add 11) w fun f11a f11n f11c => ldB (a.add 12) w fun f12 => ldB (a.add 13) w fun f13 => K ⟨f0, f1, f2, f3, f4, f5, f6, f7, f8, f9, f10, f11a, f11n, f11c, f12, f13⟩
def exR57 (K : R57 → Prop) : Prop := ∃ f0 f1 f2 f3 f4 f5 f6 f7 f8 f9 f10 f11a f11n f11c f12 f13, K ⟨f0, f1, f2, f3, f4, f5, f6, f7, f8, f9, f10, f11a, f11n, f11c, f12, f13⟩
theorem exR57_of {K : R57 → Prop} (s : R57) (k : K s) : exR57 K := ⟨s.f0, s.f1, s.f2, s.f3, s.f4, s.f5, s.f6, s.f7, s.f8, s.f9, s.f10, s.f11a, s.f11n, s.f11c, s.f12, s.f13, k⟩
theorem ldR57_of {a : Addr} {w : World} {s : R57} {K : R57 → Prop} (h : At w a s.l) (k : K s) : ldR57 a w K := (ldI_c (h 0 _ rfl) (ldI_c (h 1 _ rfl) (ldI_c (h 2 _ rfl) (ldI_c (h 3 _ rfl) (ldI_c (h 4 _ rfl) (ldB_c (h 5 _ rfl) (ldI_c (h 6 _ rfl) (ldI_c (h 7 _ rfl) (ldI_c (h 8 _ rfl) (ldI_c (h 9 _ rfl) (ldB_c (h 10 _ rfl) (ldC_c (h 11 _ rfl) (ldB_c (h 12 _ rfl) (ldB_c (h 13 _ rfl) k))))))))))))))
def R57.z : R57 := ⟨0, 0, 0, 0, 0, false, 0, 0, 0, 0, false, none, 0, 0, false, false⟩
theorem R57.c_size (s : R57) : s.c.size = 14 := rfl
theorem R57.l_len (s : R57) : s.l.length = 14 := rfl
theorem R57.c_list (s : R57) : s.c.toList = s.l := rfl
structure R70 where
  f0 : Int
  f1 : Int
  f2 : Int
  f3 : Int
  f4 : Int
  f5 : Int
  f6 : Bool
  f7a : Option Addr
  f7n : Nat
  f7c : Nat
  f8 : Bool
  f9 : Bool
  f10 : Int
  f11 : Int
  f12 : Int
  f13 : Int
  f14 : Int
  f15 : Int
  f16 : Int
  f17 : Int
  f18 : Int
  f19 : Int
  f20 : Int
  f21a : Option Addr
  f21n : Nat
  f21c : Nat
  f22a : Option Addr
  f22n : Nat
  f22c : Nat
  f23a : Option Addr
  f23n : Nat
  f23c : Nat
  f24a : Option Addr
  f24n : Nat
  f24c : Nat
  f25a : Option Addr
  f25n : Nat
  f25c : Nat
def R70.l (s : R70) : List Value := [.int .i64 s.f0, .int .i64 s.f1, .int .i64 s.f2, .int .u16 s.f3, .int .u16 s.f4, .int .u32 s.f5, .bool s.f6, .slice s.f7a s.f7n s.f7c, .bool s.f8, .bool s.f9, .int .u32 s.f10, .int .u8 s.f11, .int .u8 s.f12, .int .u32 s.f13, .int .u16 s.f14, .int .u16 s.f15, .int .u32 s.f16, .int .u32 s.f17, .int .u32 s.f18, .int .u16 s.f19, .int .u16 s.f20, .slice s.f21a s.f21n s.f21c, .slice s.f22a s.f22n s.f22c, .slice s.f23a s.f23n s.f23c, .slice s.f24a s.f24n s.f24c, .slice s.f25a s.f25n s.f25c]
def R70.c (s : R70) : Array Value := #[.int .i64 s.f0, .int .i64 s.f1, .int .i64 s.f2, .int .u16 s.f3, .int .u16 s.f4, .int .u32 s.f5, .bool s.f6, .slice s.f7a s.f7n s.f7c, .bool s.f8, .bool s.f9, .int .u32 s.f10, .int .u8 s.f11, .int .u8 s.f12, .int .u32 s.f13, .int .u16 s.f14, .int .u16 s.f15, .int .u32 s.f16, .int .u32 s.f17, .int .u32 s.f18, .int .u16 s.f19, .int .u16 s.f20, .slice s.f21a s.f21n s.f21c, .slice s.f22a s.f22n s.f22c, .slice s.f23a s.f23n s.f23c, .slice s.f24a s.f24n s.f24c, .slice s.f25a s.f25n s.f25c]
def R70.v (s : R70) : Value := .agg #[.int .i64 s.f0, .int .i64 s.f1, .int .i64 s.f2, .int .u16 s.f3, .int .u16 s.f4, .int .u32 s.f5, .bool s.f6, .slice s.f7a s.f7n s.f7c, .bool s.f8, .bool s.f9, .int .u32 s.f10, .int .u8 s.f11, .int .u8 s.f12, .int .u32 s.f13, .int .u16 s.f14, .int .u16 s.f15, .int .u32 s.f16, .int .u32 s.f17, .int .u32 s.f18, .int .u16 s.f19, .int .u16 s.f20, .slice s.f21a s.f21n s.f21c, .slice s.f22a s.f22n s.f22c, .slice s.f23a s.f23n s.f23c, .slice s.f24a s.f24n s.f24c, .slice s.f25a s.f25n s.f25c]
def ldR70 (a : Addr) (w : World) (K : R70 → Prop) : Prop := ldI .i64 (a.add 0) w fun f0 => ldI .i64 (a.add 1) w fun f1 => ldI .i64 (a.add 2) w fun f2 => ldI .u16 (a.add 3) w fun f3 => ldI .u16 (a.add 4) w fun f4 => ldI .u32 (a.add 5) w fun f5 => ldB (a.add 6) w fun f6 => ldC (a.add 7) w fun f7a f7n f7c => ldB (a.add 8) w fun f8 => ldB (a.add 9) w fun f9 => ldI .u32 (a.add 10) w fun f10 => ldI .u8 (a.add 11) w fun f11 => ldI .u8 (a.add 12) w fun f12 => ldI .u32 (a.add 13) w fun f13 => ldI .u16 (a.add 14) w fun f14 => ldI .u16 (a.add 15) w fun f15 => ldI .u32 (a.add 16) w fun f16 => ldI .u32 (a.add 17) w fun f17 => ldI .u32 (a.add 18) w fun f18 => ldI .u16 (a.add 19) w fun f19 => ldI .u16 (a.add 20) w fun f20 => ldC (a.add 21) w fun f21a f21n f21c => ldC (a.add 22) w fun f22a f22n f22c => ldC (a.add 23) w fun f23a f23n f23c => ldC (a.add 24) w fun f24a f24n f24c => ldC (a.add 25) w fun f25a f25n f25c => K ⟨f0, f1, f2, f3, f4, f5, f6, f7a, f7n, f7c, f8, f9, f10, f11, f12, f13, f14, f15, f16, f17, f18, f19, f20, f21a, f21n, f21c, f22a, f22n, f22c, f23a, f23n, f23c, f24a, f24n, f24c, f25a, f25n, f25c⟩
def exR70 (K : R70 → Prop) : Prop := ∃ f0 f1 f2 f3 f4 f5 f6 f7a f7n f7c f8 f9 f10 f11 f12 f13 f14 f15 f16 f17 f18 f19 f20 f21a f21n f21c f22a f22n f22c f23a f23n f23c f24a f24n f24c f25a f25n f25c, K ⟨f0, f1, f2, f3, f4, f5, f6, f7a, f7n, f7c, f8, f9, f10, f11, f12, f13, f14, f15, f16, f17, f18, f19, f20, f21a, f21n, f21c, f22a, f22n, f22c, f23a, f23n, f23c, f24a, f24n, f24c, f25a, f25n, f25c⟩
theorem exR70_of {K : R70 → Prop} (s : R70) (k : K s) : exR70 K := ⟨s.f0, s.f1, s.f2, s.f3, s.f4, s.f5, s.f6, s.f7a, s.f7n, s.f7c, s.f8, s.f9, s.f10, s.f11, s.f12, s.f13, s.f14, s.f15, s.f16, s.f17, s.f18, s.f19, s.f20, s.f21a, s.f21n, s.f21c, s.f22a, s.f22n, s.f22c, s.f23a, s.f23n, s.f23c, s.f24a, s.f24n, s.f24c, s.f25a, s.f25n, s.f25c, k⟩
theorem ldR70_of {a : Addr} {w : World} {s : R70} {K : R70 → Prop} (h : At w a s.l) (k : K s) : ldR70 a w K := (ldI_c (h 0 _ rfl) (ldI_c (h 1 _ rfl) (ldI_c (h 2 _ rfl) (ldI_c (h 3 _ rfl) (ldI_c (h 4 _ rfl) (ldI_c (h 5 _ rfl) (ldB_c (h 6 _ rfl) (ldC_c (h 7 _ rfl) (ldB_c (h 8 _ rfl) (ldB_c (h 9 _ rfl) (ldI_c (h 10 _ rfl) (ldI_c (h 11 _ rfl) (ldI_c (h 12 _ rfl) (ldI_c (h 13 _ rfl) (ldI_c (h 14 _ rfl) (ldI_c (h 15 _ rfl) (ldI_c (h 16 _ rfl) (ldI_c (h 17 _ rfl) (ldI_c (h 18 _ rfl) (ldI_c (h 19 _ rfl) (ldI_c (h 20 _ rfl) (ldC_c (h 21 _ rfl) (ldC_c (h 22 _ rfl) (ldC_c (h 23 _ rfl) (ldC_c (h 24 _ rfl) (ldC_c (h 25 _ rfl) k))))))))))))))))))))))))))
def R70.z : R70 := ⟨0, 0, 0, 0, 0, 0, false, none, 0, 0, false, false, 0, 0, 0, 0, 0, 0, 0, 0, 0, 0, 0, none, 0, 0, none, 0, 0, none, 0, 0, none, 0, 0, none, 0, 0⟩
theorem R70.c_size (s : R70) : s.c.size = 26 := rfl
theorem R70.l_len (s : R70) : s.l.length = 26 := rfl
theorem R70.c_list (s : R70) : s.c.toList = s.l := rfl
structure R78 where
  f0 : Int
  f1 : Int
  f2a : Option Addr
  f2n : Nat
  f2c : Nat
def R78.l (s : R78) : List Value := [.int .i64 s.f0, .int .u32 s.f1, .slice s.f2a s.f2n s.f2c]
def R78.c (s : R78) : Array Value := #[.int .i64 s.f0, .int .u32 s.f1, .slice s.f2a s.f2n s.f2c]
def R78.v (s : R78) : Value := .agg #[.int .i64 s.f0, .int .u32 s.f1, .slice s.f2a s.f2n s.f2c]
def ldR78 (a : Addr) (w : World) (K : R78 → Prop) : Prop := ldI .i64 (a.add 0) w fun f0 => ldI .u32 (a.add 1) w fun f1 => ldC (a.add 2) w fun f2a f2n f2c => K ⟨f0, f1, f2a, f2n, f2c⟩
def exR78 (K : R78 → Prop) : Prop := ∃ f0 f1 f2a f2n f2c, K ⟨f0, f1, f2a, f2n, f2c⟩
theorem exR78_of {K : R78 → Prop} (s : R78) (k : K s) : exR78 K := ⟨s.f0, s.f1, s.f2a, s.f2n, s.f2c, k⟩
theorem ldR78_of {a : Addr} {w : World} {s : R78} {K : R78 → Prop} (h : At w a s.l) (k : K s) : ldR78 a w K := (ldI_c (h 0 _ rfl) (ldI_c (h 1 _ rfl) (ldC_c (h 2 _ rfl) k)))
def R78.z : R78 := ⟨0, 0, none, 0, 0⟩
theorem R78.c_size (s : R78) : s.c.size = 3 := rfl
theorem R78.l_len (s : R78) : s.l.length = 3 := rfl
theorem R78.c_list (s : R78) : s.c.toList = s.l := rfl
structure R95 where
  f0a : Option Addr
  f0n : Nat
  f0c : Nat
  f1a : Option Addr
  f1n : Nat
  f1c : Nat
  f2a : Option Addr
  f2n : Nat
  f2c : Nat
def R95.l (s : R95) : List Value := [.slice s.f0a s.f0n s.f0c, .slice s.f1a s.f1n s.f1c, .slice s.f2a s.f2n s.f2c]
def R95.c (s : R95) : Array Value := #[.slice s.f0a s.f0n s.f0c, .slice s.f1a s.f1n s.f1c, .slice s.f2a s.f2n s.f2c]
def R95.v (s : R95) : Value := .agg #[.slice s.f0a s.f0n s.f0c, .slice s.f1a s.f1n s.f1c, .slice s.f2a s.f2n s.f2c]
def ldR95 (a : Addr) (w : World) (K : R95 → Prop) : Prop := ldC (a.add 0) w fun f0a f0n f0c => ldC (a.add 1) w fun f1a f1n f1c => ldC (a.add 2) w fun f2a f2n f2c => K ⟨f0a, f0n, f0c, f1a, f1n, f1c, f2a, f2n, f2c⟩
def exR95 (K : R95 → Prop) : Prop := ∃ f0a f0n f0c f1a f1n f1c f2a f2n f2c, K ⟨f0a, f0n, f0c, f1a, f1n, f1c, f2a, f2n, f2c⟩
theorem exR95_of {K : R95 → Prop} (s : R95) (k : K s) : exR95 K := ⟨s.f0a, s.f0n, s.f0c, s.f1a, s.f1n, s.f1c, s.f2a, s.f2n, s.f2c, k⟩
theorem ldR95_of {a : Addr} {w : World} {s : R95} {K : R95 → Prop} (h : At w a s.l) (k : K s) : ldR95 a w K := (ldC_c (h 0 _ rfl) (ldC_c (h 1 _ rfl) (ldC_c (h 2 _ rfl) k)))
def R95.z : R95 := ⟨none, 0, 0, none, 0, 0, none, 0, 0⟩
theorem R95.c_size (s : R95) : s.c.size = 3 := rfl
theorem R95.l_len (s : R95) : s.l.length = 3 := rfl
theorem R95.c_list (s : R95) : s.c.toList = s.l := rfl
/-! ropewalk/ropewalklaw17.OutboxSplit -/
noncomputable def F3_code : Code := Try.f3.body.getD .skip
theorem F3_code_ok : okC Try.prog Try.f3.ntmps F3_code = true := by kernel_rfl
def F3_1C (Kn : Value → Value → Value → Value → Value → Value → Value → Value → World → Prop) : Post := fun o t w => match o with | .normal => Kn (t 1) (t 2) (t 4) (t 8) (t 11) (t 15) (t 16) (t 17) w | .exit _ => (False) | .ret => False
def F3_1 (Kn : Value → Value → Value → Value → Value → Value → Value → Value → World → Prop) (x1 : Value) (x2 : Value) (x4 : Value) (x8 : Value) (x11 : Value) (x15 : Value) (x16 : Value) (x17 : Value) (x118 : Value) (w : World) : Prop :=
  rdC x1 fun l1a l1n l1c => rdC x2 fun l2a l2n l2c => rdI .i64 x4 fun n3 => rdA x8 fun a4 => rdP x11 fun p5 => rdC x15 fun l6a l6n l6c => rdI .i64 x16 fun n7 => rdI .i64 x17 fun n8 => rdB x118 fun b9 => br b9 (alc (.cells #[(.int .u16 (IntKind.wrap .u16 (n8))), (.int .u16 (IntKind.wrap .u16 (n8)))] 44) w fun b10 w11 => ∃ l12a l12n l12c w13, Sem.run Try.prog (Builtin.append_ #[27, 27] 27 #[(.slice l6a l6n l6c), (.slice (some (Addr.mk b10 0 none)) 1 1)]) w11 = .ok (.slice l12a l12n l12c) w13 ∧ (Kn (.slice l1a l1n l1c) (.slice l2a l2n l2c) (.int .i64 n3) (.pointer (some a4)) (.pointer p5) (.slice l12a l12n l12c) (.int .i64 n7) (.int .i64 n8) w13)) (Kn (.slice l1a l1n l1c) (.slice l2a l2n l2c) (.int .i64 n3) (.pointer (some a4)) (.pointer p5) (.slice l6a l6n l6c) (.int .i64 n7) (.int .i64 n8) w)
def F3_1O (Q : Post) (t : Tm) (w : World) : Prop := F3_1 (fun y1 y2 y4 y8 y11 y15 y16 y17 w => ∀ g, rsh [(1, (.one .slc)), (2, (.one .slc)), (4, (.one (.int .i64))), (8, (.one .adr)), (11, (.one .ptr)), (15, (.one .slc)), (16, (.one (.int .i64))), (17, (.one (.int .i64)))] (upds g [(1, y1), (2, y2), (4, y4), (8, y8), (11, y11), (15, y15), (16, y16), (17, y17)]) fun t => Q .normal t w) (t 1) (t 2) (t 4) (t 8) (t 11) (t 15) (t 16) (t 17) (t 118) w
theorem F3_1_step (Kn : Value → Value → Value → Value → Value → Value → Value → Value → World → Prop) (t : Tm) (w : World) : (F3_1 Kn (t 1) (t 2) (t 4) (t 8) (t 11) (t 15) (t 16) (t 17) (t 118) w) = rsh [(1, (.one .slc)), (2, (.one .slc)), (4, (.one (.int .i64))), (8, (.one .adr)), (11, (.one .ptr)), (15, (.one .slc)), (16, (.one (.int .i64))), (17, (.one (.int .i64))), (118, (.one .bool))] t (fun t => vc Try.prog (orcOf []) [1, 0, 0, 1, 0, 0, 1, 0, 0, 1, 0, 0, 1, 0, 1, 1, 1, 1, 1] (getAt F3_code [1, 0, 0, 1, 0, 0, 1, 0, 0, 1, 0, 0, 1, 0, 1, 1, 1, 1, 1]) (F3_1C Kn) t w) := by kernel_rfl
theorem F3_1_ok : ∀ Q t w, F3_1O Q t w → W Try.prog Try.f3.ntmps (getAt F3_code [1, 0, 0, 1, 0, 0, 1, 0, 0, 1, 0, 0, 1, 0, 1, 1, 1, 1, 1]) Q t w := by
  intro Q t w h
  unfold F3_1O at h
  rw [F3_1_step] at h
  refine (vc_sound mixed (orcNil F3_code) _ _ rfl (okC_at F3_code_ok [1, 0, 0, 1, 0, 0, 1, 0, 0, 1, 0, 0, 1, 0, 1, 1, 1, 1, 1]) _ _ _ (rsh_out h)).mono ?_
  intro o t w q
  cases o with
  | normal => exact out_ok [1, 2, 4, 8, 11, 15, 16, 17] q
  | exit i => exact q.elim
  | ret => exact q.elim
def F3_2C (Kn : Value → Value → Value → Value → Value → Value → Value → Value → World → Prop) : Post := fun o t w => match o with | .normal => Kn (t 1) (t 2) (t 4) (t 8) (t 11) (t 15) (t 16) (t 17) w | .exit _ => (False) | .ret => False
def F3_2 (Kn : Value → Value → Value → Value → Value → Value → Value → Value → World → Prop) (x1 : Value) (x2 : Value) (x4 : Value) (x8 : Value) (x11 : Value) (x15 : Value) (x16 : Value) (x17 : Value) (w : World) : Prop :=
  rdC x1 fun l1a l1n l1c => rdC x2 fun l2a l2n l2c => rdI .i64 x4 fun n3 => rdA x8 fun a4 => rdP x11 fun p5 => rdC x15 fun l6a l6n l6c => rdI .i64 x16 fun n7 => rdI .i64 x17 fun n8 => br (decide ((n8 : Int) > 0)) (ixS 1 l2a l2n (IntKind.wrap .i64 (n8 - 1)) fun a9 => ldB a9 w fun b10 => F3_1 (fun y1_10 y2_10 y4_10 y8_10 y11_10 y15_10 y16_10 y17_10 w12 => ∀ _g13 : Tm, rdC y1_10 fun l14a l14n l14c => rdC y2_10 fun l15a l15n l15c => rdI .i64 y4_10 fun n16 => rdA y8_10 fun a17 => rdP y11_10 fun p18 => rdC y15_10 fun l19a l19n l19c => rdI .i64 y16_10 fun n20 => rdI .i64 y17_10 fun n21 => Kn (.slice l14a l14n l14c) (.slice l15a l15n l15c) (.int .i64 n16) (.pointer (some a17)) (.pointer p18) (.slice l19a l19n l19c) (.int .i64 n20) (.int .i64 (IntKind.wrap .i64 (n21 + 1))) w12) (.slice l1a l1n l1c) (.slice l2a l2n l2c) (.int .i64 n3) (.pointer (some a4)) (.pointer p5) (.slice l6a l6n l6c) (.int .i64 n7) (.int .i64 n8) (.bool (!b10)) w) (F3_1 (fun y1_21 y2_21 y4_21 y8_21 y11_21 y15_21 y16_21 y17_21 w23 => ∀ _g24 : Tm, rdC y1_21 fun l25a l25n l25c => rdC y2_21 fun l26a l26n l26c => rdI .i64 y4_21 fun n27 => rdA y8_21 fun a28 => rdP y11_21 fun p29 => rdC y15_21 fun l30a l30n l30c => rdI .i64 y16_21 fun n31 => rdI .i64 y17_21 fun n32 => Kn (.slice l25a l25n l25c) (.slice l26a l26n l26c) (.int .i64 n27) (.pointer (some a28)) (.pointer p29) (.slice l30a l30n l30c) (.int .i64 n31) (.int .i64 (IntKind.wrap .i64 (n32 + 1))) w23) (.slice l1a l1n l1c) (.slice l2a l2n l2c) (.int .i64 n3) (.pointer (some a4)) (.pointer p5) (.slice l6a l6n l6c) (.int .i64 n7) (.int .i64 n8) (.bool false) w)
def F3_2O (Q : Post) (t : Tm) (w : World) : Prop := F3_2 (fun y1 y2 y4 y8 y11 y15 y16 y17 w => ∀ g, rsh [(1, (.one .slc)), (2, (.one .slc)), (4, (.one (.int .i64))), (8, (.one .adr)), (11, (.one .ptr)), (15, (.one .slc)), (16, (.one (.int .i64))), (17, (.one (.int .i64)))] (upds g [(1, y1), (2, y2), (4, y4), (8, y8), (11, y11), (15, y15), (16, y16), (17, y17)]) fun t => Q .normal t w) (t 1) (t 2) (t 4) (t 8) (t 11) (t 15) (t 16) (t 17) w
theorem F3_2_step (Kn : Value → Value → Value → Value → Value → Value → Value → Value → World → Prop) (t : Tm) (w : World) : (F3_2 Kn (t 1) (t 2) (t 4) (t 8) (t 11) (t 15) (t 16) (t 17) w) = rsh [(1, (.one .slc)), (2, (.one .slc)), (4, (.one (.int .i64))), (8, (.one .adr)), (11, (.one .ptr)), (15, (.one .slc)), (16, (.one (.int .i64))), (17, (.one (.int .i64)))] t (fun t => vc Try.prog (orcOf [([1, 0, 0, 1, 0, 0, 1, 0, 0, 1, 0, 0, 1, 0, 1, 1, 1, 1, 1], F3_1O)]) [1, 0, 0, 1, 0, 0, 1, 0, 0, 1, 0, 1, 1, 1, 1, 1] (getAt F3_code [1, 0, 0, 1, 0, 0, 1, 0, 0, 1, 0, 1, 1, 1, 1, 1]) (F3_2C Kn) t w) := by kernel_rfl
theorem F3_2_ok : ∀ Q t w, F3_2O Q t w → W Try.prog Try.f3.ntmps (getAt F3_code [1, 0, 0, 1, 0, 0, 1, 0, 0, 1, 0, 1, 1, 1, 1, 1]) Q t w := by
  intro Q t w h
  unfold F3_2O at h
  rw [F3_2_step] at h
  refine (vc_sound mixed (orcCons (π := [1, 0, 0, 1, 0, 0, 1, 0, 0, 1, 0, 0, 1, 0, 1, 1, 1, 1, 1]) F3_1_ok (orcNil F3_code)) _ _ rfl (okC_at F3_code_ok [1, 0, 0, 1, 0, 0, 1, 0, 0, 1, 0, 1, 1, 1, 1, 1]) _ _ _ (rsh_out h)).mono ?_
  intro o t w q
  cases o with
  | normal => exact out_ok [1, 2, 4, 8, 11, 15, 16, 17] q
  | exit i => exact q.elim
  | ret => exact q.elim
def F3_3C (K4 : Value → Value → Value → Value → Value → Value → Value → World → Prop) : Post := fun o t w => match o with | .normal => False | .exit i => (match Nat.beq i 4 with | true => K4 (t 1) (t 2) (t 4) (t 8) (t 11) (t 15) (t 16) w | false => False) | .ret => False
def F3_3B (R : Value → Value → Value → Value → Value → Value → Value → Value → World → Prop) (K4 : Value → Value → Value → Value → Value → Value → Value → World → Prop) (x1 : Value) (x2 : Value) (x4 : Value) (x8 : Value) (x11 : Value) (x15 : Value) (x16 : Value) (x17 : Value) (w : World) : Prop :=
  rdC x1 fun l1a l1n l1c => rdC x2 fun l2a l2n l2c => rdI .i64 x4 fun n3 => rdA x8 fun a4 => rdP x11 fun p5 => rdC x15 fun l6a l6n l6c => rdI .i64 x16 fun n7 => rdI .i64 x17 fun n8 => ldC (a4.add 10) w fun l9a l9n _ => ixS 2 l9a l9n n7 fun a10 => ldI .u16 (a10.add 1) w fun n11 => br (decide ((n8 : Int) ≤ (IntKind.wrap .i64 (n11)))) (br (decide (((IntKind.wrap .i64 (n8 - 1)) : Int) < (l2n : Int))) (br (decide (((IntKind.wrap .i64 (n8 - 1)) : Int) < (l1n : Int))) (br (decide ((n8 : Int) ≤ 60)) (F3_2 (fun y1_11 y2_11 y4_11 y8_11 y11_11 y15_11 y16_11 y17_11 w13 => ∀ _g14 : Tm, rdC y1_11 fun l15a l15n l15c => rdC y2_11 fun l16a l16n l16c => rdI .i64 y4_11 fun n17 => rdA y8_11 fun a18 => rdP y11_11 fun p19 => rdC y15_11 fun l20a l20n l20c => rdI .i64 y16_11 fun n21 => rdI .i64 y17_11 fun n22 => R (.slice l15a l15n l15c) (.slice l16a l16n l16c) (.int .i64 n17) (.pointer (some a18)) (.pointer p19) (.slice l20a l20n l20c) (.int .i64 n21) (.int .i64 n22) w13) (.slice l1a l1n l1c) (.slice l2a l2n l2c) (.int .i64 n3) (.pointer (some a4)) (.pointer p5) (.slice l6a l6n l6c) (.int .i64 n7) (.int .i64 n8) w) (K4 (.slice l1a l1n l1c) (.slice l2a l2n l2c) (.int .i64 n3) (.pointer (some a4)) (.pointer p5) (.slice l6a l6n l6c) (.int .i64 n7) w)) (K4 (.slice l1a l1n l1c) (.slice l2a l2n l2c) (.int .i64 n3) (.pointer (some a4)) (.pointer p5) (.slice l6a l6n l6c) (.int .i64 n7) w)) (K4 (.slice l1a l1n l1c) (.slice l2a l2n l2c) (.int .i64 n3) (.pointer (some a4)) (.pointer p5) (.slice l6a l6n l6c) (.int .i64 n7) w)) (K4 (.slice l1a l1n l1c) (.slice l2a l2n l2c) (.int .i64 n3) (.pointer (some a4)) (.pointer p5) (.slice l6a l6n l6c) (.int .i64 n7) w)
def F3_3 (K4 : Value → Value → Value → Value → Value → Value → Value → World → Prop) : Nat → Value → Value → Value → Value → Value → Value → Value → Value → World → Prop
  | 0 => fun _ _ _ _ _ _ _ _ _ => False
  | n + 1 => F3_3B (F3_3 K4 n) K4
def F3_3O (Q : Post) (t : Tm) (w : World) : Prop := ∃ n, F3_3 (fun y1 y2 y4 y8 y11 y15 y16 w => ∀ g, rsh [(1, (.one .slc)), (2, (.one .slc)), (4, (.one (.int .i64))), (8, (.one .adr)), (11, (.one .ptr)), (15, (.one .slc)), (16, (.one (.int .i64)))] (upds g [(1, y1), (2, y2), (4, y4), (8, y8), (11, y11), (15, y15), (16, y16)]) fun t => Q (.exit 4) t w) n (t 1) (t 2) (t 4) (t 8) (t 11) (t 15) (t 16) (t 17) w
theorem F3_3_step (K4 : Value → Value → Value → Value → Value → Value → Value → World → Prop) (n : Nat) (t : Tm) (w : World) : (F3_3 K4 (n + 1) (t 1) (t 2) (t 4) (t 8) (t 11) (t 15) (t 16) (t 17) w) = rsh [(1, (.one .slc)), (2, (.one .slc)), (4, (.one (.int .i64))), (8, (.one .adr)), (11, (.one .ptr)), (15, (.one .slc)), (16, (.one (.int .i64))), (17, (.one (.int .i64)))] t (fun t => vc Try.prog (orcOf [([1, 0, 0, 1, 0, 0, 1, 0, 0, 1, 0, 0, 1, 0, 1, 1, 1, 1, 1], F3_1O), ([1, 0, 0, 1, 0, 0, 1, 0, 0, 1, 0, 1, 1, 1, 1, 1], F3_2O)]) [0, 0, 1, 0, 0, 1, 0, 0, 1, 0, 1, 1, 1, 1, 1] (getAt F3_code [0, 0, 1, 0, 0, 1, 0, 0, 1, 0, 1, 1, 1, 1, 1]) (fun o t w => match o with | .normal => F3_3 K4 n (t 1) (t 2) (t 4) (t 8) (t 11) (t 15) (t 16) (t 17) w | .exit i => F3_3C K4 (.exit i) t w | .ret => F3_3C K4 .ret t w) t w) := by kernel_rfl
theorem F3_3_ok : ∀ Q t w, F3_3O Q t w → W Try.prog Try.f3.ntmps (getAt F3_code [0, 1, 0, 0, 1, 0, 0, 1, 0, 1, 1, 1, 1, 1]) Q t w := by
  intro Q t w ⟨n, h⟩
  refine (W_loop (P := Try.prog) (b := getAt F3_code [0, 0, 1, 0, 0, 1, 0, 0, 1, 0, 1, 1, 1, 1, 1]) (Q := F3_3C (fun y1 y2 y4 y8 y11 y15 y16 w => ∀ g, rsh [(1, (.one .slc)), (2, (.one .slc)), (4, (.one (.int .i64))), (8, (.one .adr)), (11, (.one .ptr)), (15, (.one .slc)), (16, (.one (.int .i64)))] (upds g [(1, y1), (2, y2), (4, y4), (8, y8), (11, y11), (15, y15), (16, y16)]) fun t => Q (.exit 4) t w)) (G := fun n t w => F3_3 (fun y1 y2 y4 y8 y11 y15 y16 w => ∀ g, rsh [(1, (.one .slc)), (2, (.one .slc)), (4, (.one (.int .i64))), (8, (.one .adr)), (11, (.one .ptr)), (15, (.one .slc)), (16, (.one (.int .i64)))] (upds g [(1, y1), (2, y2), (4, y4), (8, y8), (11, y11), (15, y15), (16, y16)]) fun t => Q (.exit 4) t w) n (t 1) (t 2) (t 4) (t 8) (t 11) (t 15) (t 16) (t 17) w) (fun _ _ h => h) (fun n t w h => ?_) n t w h).mono ?_
  · rw [F3_3_step] at h
    exact vc_sound mixed (orcCons (π := [1, 0, 0, 1, 0, 0, 1, 0, 0, 1, 0, 0, 1, 0, 1, 1, 1, 1, 1]) F3_1_ok (orcCons (π := [1, 0, 0, 1, 0, 0, 1, 0, 0, 1, 0, 1, 1, 1, 1, 1]) F3_2_ok (orcNil F3_code))) _ _ rfl (okC_at F3_code_ok [0, 0, 1, 0, 0, 1, 0, 0, 1, 0, 1, 1, 1, 1, 1]) _ _ _ (rsh_out h)
  · intro o t w q
    cases o with
    | normal => exact q.elim
    | exit i =>
      unfold F3_3C at q
      simp only at q
      split at q
      · rename_i hi
        rw [nbeq] at hi
        subst hi
        exact out_ok [1, 2, 4, 8, 11, 15, 16] q
      · exact q.elim
    | ret => exact q.elim
def F3_4C (K8 : World → Prop) (Kr : Value → World → Prop) : Post := fun o t w => match o with | .normal => False | .exit i => (match Nat.beq i 8 with | true => K8  w | false => False) | .ret => Kr (t 10) w
def F3_4B (R : Value → Value → World → Prop) (K8 : World → Prop) (Kr : Value → World → Prop) (x21 : Value) (x22 : Value) (w : World) : Prop :=
  rdC x21 fun l1a l1n l1c => rdI .i64 x22 fun n2 => br (decide ((n2 : Int) < (l1n : Int))) (ixS 14 l1a l1n n2 fun a3 => ldI .i64 (a3.add 1) w fun n4 => br (n4 == 1) (ixS 14 l1a l1n n2 fun a5 => ldI .i64 (a5.add 6) w fun n6 => br (n6 != 1) (Kr (.bool false) w) (ixS 14 l1a l1n n2 fun a7 => ldI .i64 (a7.add 4) w fun n8 => br (n8 != 0) (Kr (.bool false) w) (R (.slice l1a l1n l1c) (.int .i64 (IntKind.wrap .i64 (n2 + 1))) w))) (R (.slice l1a l1n l1c) (.int .i64 (IntKind.wrap .i64 (n2 + 1))) w)) (K8 w)
def F3_4 (K8 : World → Prop) (Kr : Value → World → Prop) : Nat → Value → Value → World → Prop
  | 0 => fun _ _ _ => False
  | n + 1 => F3_4B (F3_4 K8 Kr n) K8 Kr
def F3_4O (Q : Post) (t : Tm) (w : World) : Prop := ∃ n, F3_4 (fun w => ∀ g, rsh [] (upds g []) fun t => Q (.exit 8) t w) (fun y10 w => ∀ g, rsh [(10, (.one .bool))] (upds g [(10, y10)]) fun t => Q .ret t w) n (t 21) (t 22) w
theorem F3_4_step (K8 : World → Prop) (Kr : Value → World → Prop) (n : Nat) (t : Tm) (w : World) : (F3_4 K8 Kr (n + 1) (t 21) (t 22) w) = rsh [(21, (.one .slc)), (22, (.one (.int .i64)))] t (fun t => vc Try.prog (orcOf []) [0, 0, 1, 0, 1, 1, 1, 1, 1, 1, 1, 1, 1] (getAt F3_code [0, 0, 1, 0, 1, 1, 1, 1, 1, 1, 1, 1, 1]) (fun o t w => match o with | .normal => F3_4 K8 Kr n (t 21) (t 22) w | .exit i => F3_4C K8 Kr (.exit i) t w | .ret => F3_4C K8 Kr .ret t w) t w) := by kernel_rfl
theorem F3_4_ok : ∀ Q t w, F3_4O Q t w → W Try.prog Try.f3.ntmps (getAt F3_code [0, 1, 0, 1, 1, 1, 1, 1, 1, 1, 1, 1]) Q t w := by
  intro Q t w ⟨n, h⟩
  refine (W_loop (P := Try.prog) (b := getAt F3_code [0, 0, 1, 0, 1, 1, 1, 1, 1, 1, 1, 1, 1]) (Q := F3_4C (fun w => ∀ g, rsh [] (upds g []) fun t => Q (.exit 8) t w) (fun y10 w => ∀ g, rsh [(10, (.one .bool))] (upds g [(10, y10)]) fun t => Q .ret t w)) (G := fun n t w => F3_4 (fun w => ∀ g, rsh [] (upds g []) fun t => Q (.exit 8) t w) (fun y10 w => ∀ g, rsh [(10, (.one .bool))] (upds g [(10, y10)]) fun t => Q .ret t w) n (t 21) (t 22) w) (fun _ _ h => h) (fun n t w h => ?_) n t w h).mono ?_
  · rw [F3_4_step] at h
    exact vc_sound mixed (orcNil F3_code) _ _ rfl (okC_at F3_code_ok [0, 0, 1, 0, 1, 1, 1, 1, 1, 1, 1, 1, 1]) _ _ _ (rsh_out h)
  · intro o t w q
    cases o with
    | normal => exact q.elim
    | exit i =>
      unfold F3_4C at q
      simp only at q
      split at q
      · rename_i hi
        rw [nbeq] at hi
        subst hi
        exact out_ok [] q
      · exact q.elim
    | ret => exact out_ok [10] q
def F3_5C (Kn : Value → Value → Value → Value → Value → Value → World → Prop) : Post := fun o t w => match o with | .normal => Kn (t 1) (t 2) (t 4) (t 8) (t 11) (t 13) w | .exit _ => (False) | .ret => False
def F3_5 (Kn : Value → Value → Value → Value → Value → Value → World → Prop) (x1 : Value) (x2 : Value) (x4 : Value) (x8 : Value) (x11 : Value) (x13 : Value) (x14 : Value) (w : World) : Prop :=
  rdC x1 fun l1a l1n l1c => rdC x2 fun l2a l2n l2c => rdI .i64 x4 fun n3 => rdA x8 fun a4 => rdP x11 fun p5 => rdI .i64 x13 fun n6 => rdI .i64 x14 fun n7 => ixS 1 l1a l1n n6 fun a8 => ldI .u8 a8 w fun n9 => slT ⟨#[97, 98, 99, 100, 101, 102, 103, 104, 105, 106]⟩ none (some (.int .i64 (IntKind.wrap .i64 (1 + (Int.tmod (IntKind.wrap .i64 (n9)) 10))))) fun s10 => Calls Try.prog 11 #[(.string s10)] w fun e12 w11 => exR40 fun s13 => e12 = .returned s13.v ∧ (Calls Try.prog 10 #[(.pointer p5), (.int .i64 n7), s13.v, (.int .i64 0)] w11 fun e15 w14 => ∃ n16, ∃ n17, e15 = .returned (.tuple #[(.int .u32 n16), (.int .i64 n17)]) ∧ (Kn (.slice l1a l1n l1c) (.slice l2a l2n l2c) (.int .i64 n3) (.pointer (some a4)) (.pointer p5) (.int .i64 n6) w14))
def F3_5O (Q : Post) (t : Tm) (w : World) : Prop := F3_5 (fun y1 y2 y4 y8 y11 y13 w => ∀ g, rsh [(1, (.one .slc)), (2, (.one .slc)), (4, (.one (.int .i64))), (8, (.one .adr)), (11, (.one .ptr)), (13, (.one (.int .i64)))] (upds g [(1, y1), (2, y2), (4, y4), (8, y8), (11, y11), (13, y13)]) fun t => Q .normal t w) (t 1) (t 2) (t 4) (t 8) (t 11) (t 13) (t 14) w
theorem F3_5_step (Kn : Value → Value → Value → Value → Value → Value → World → Prop) (t : Tm) (w : World) : (F3_5 Kn (t 1) (t 2) (t 4) (t 8) (t 11) (t 13) (t 14) w) = rsh [(1, (.one .slc)), (2, (.one .slc)), (4, (.one (.int .i64))), (8, (.one .adr)), (11, (.one .ptr)), (13, (.one (.int .i64))), (14, (.one (.int .i64)))] t (fun t => vc Try.prog (orcOf []) [1, 1, 0, 0, 1, 0, 0, 1, 0, 1, 1, 1] (getAt F3_code [1, 1, 0, 0, 1, 0, 0, 1, 0, 1, 1, 1]) (F3_5C Kn) t w) := by kernel_rfl
theorem F3_5_ok : ∀ Q t w, F3_5O Q t w → W Try.prog Try.f3.ntmps (getAt F3_code [1, 1, 0, 0, 1, 0, 0, 1, 0, 1, 1, 1]) Q t w := by
  intro Q t w h
  unfold F3_5O at h
  rw [F3_5_step] at h
  refine (vc_sound mixed (orcNil F3_code) _ _ rfl (okC_at F3_code_ok [1, 1, 0, 0, 1, 0, 0, 1, 0, 1, 1, 1]) _ _ _ (rsh_out h)).mono ?_
  intro o t w q
  cases o with
  | normal => exact out_ok [1, 2, 4, 8, 11, 13] q
  | exit i => exact q.elim
  | ret => exact q.elim
def F3_6C (K6 : Value → World → Prop) (Kr : Value → World → Prop) : Post := fun o t w => match o with | .normal => False | .exit i => (match Nat.beq i 6 with | true => K6 (t 11) w | false => False) | .ret => Kr (t 10) w
def F3_6B (R : Value → Value → Value → Value → World → Prop) (K6 : Value → World → Prop) (Kr : Value → World → Prop) (x4 : Value) (x8 : Value) (x11 : Value) (x18 : Value) (w : World) : Prop :=
  rdI .i64 x4 fun n1 => rdA x8 fun a2 => rdP x11 fun p3 => rdI .i64 x18 fun n4 => br (decide ((n4 : Int) < 5)) (ldR30 a2 w fun s5 => Calls Try.prog 13 #[(.pointer p3), s5.v, (.int .i64 n1)] w fun e7 w6 => exR47 fun s8 => ∃ n9, e7 = .returned (.tuple #[s8.v, (.int .i64 n9)]) ∧ (alc (.cells ((R47.mk none 0 0 0 0)).c 48) w6 fun b10 w11 => stcL (Addr.mk b10 0 none) 0 s8.l w11 fun w12 => br (n9 != 0) (br (decide ((n1 : Int) < 0)) (br (n9 == 1) (Calls Try.prog 14 #[] w12 fun e14 w13 => ∃ b15, e14 = .returned (.bool b15) ∧ (Kr (.bool b15) w13)) (Kr (.bool false) w12)) (br (decide ((n1 : Int) > 1099511627776)) (br (n9 == 1) (Calls Try.prog 14 #[] w12 fun e17 w16 => ∃ b18, e17 = .returned (.bool b18) ∧ (Kr (.bool b18) w16)) (Kr (.bool false) w12)) (Kr (.bool false) w12))) (ldC ((Addr.mk b10 0 none).add 0) w12 fun _ l19n _ => br ((l19n : Int) != 2) (Kr (.bool false) w12) (ldC ((Addr.mk b10 0 none).add 0) w12 fun l20a l20n _ => ixS 4 l20a l20n 1 fun a21 => ldR52 a21 w12 fun s22 => ∃ b23, ∃ w24, Sem.run Try.prog (binF Try.prog .neq 53 (.tmp 168) (.tmp 169) s22.v (.agg #[(.int .i64 0), (.bool false), (.int .i64 (-1)), (.int .i64 0)])) w12 = .ok (.bool b23) w24 ∧ (br b23 (Kr (.bool false) w24) (R (.int .i64 n1) (.pointer (some a2)) (.pointer p3) (.int .i64 (IntKind.wrap .i64 (n4 + 1))) w24)))))) (K6 (.pointer p3) w)
def F3_6 (K6 : Value → World → Prop) (Kr : Value → World → Prop) : Nat → Value → Value → Value → Value → World → Prop
  | 0 => fun _ _ _ _ _ => False
  | n + 1 => F3_6B (F3_6 K6 Kr n) K6 Kr
def F3_6O (Q : Post) (t : Tm) (w : World) : Prop := ∃ n, F3_6 (fun y11 w => ∀ g, rsh [(11, (.one .ptr))] (upds g [(11, y11)]) fun t => Q (.exit 6) t w) (fun y10 w => ∀ g, rsh [(10, (.one .bool))] (upds g [(10, y10)]) fun t => Q .ret t w) n (t 4) (t 8) (t 11) (t 18) w
theorem F3_6_step (K6 : Value → World → Prop) (Kr : Value → World → Prop) (n : Nat) (t : Tm) (w : World) : (F3_6 K6 Kr (n + 1) (t 4) (t 8) (t 11) (t 18) w) = rsh [(4, (.one (.int .i64))), (8, (.one .adr)), (11, (.one .ptr)), (18, (.one (.int .i64)))] t (fun t => vc Try.prog (orcOf []) [0, 0, 1, 0, 1, 1, 1, 1, 1, 1, 1] (getAt F3_code [0, 0, 1, 0, 1, 1, 1, 1, 1, 1, 1]) (fun o t w => match o with | .normal => F3_6 K6 Kr n (t 4) (t 8) (t 11) (t 18) w | .exit i => F3_6C K6 Kr (.exit i) t w | .ret => F3_6C K6 Kr .ret t w) t w) := by kernel_rfl
theorem F3_6_ok : ∀ Q t w, F3_6O Q t w → W Try.prog Try.f3.ntmps (getAt F3_code [0, 1, 0, 1, 1, 1, 1, 1, 1, 1]) Q t w := by
  intro Q t w ⟨n, h⟩
  refine (W_loop (P := Try.prog) (b := getAt F3_code [0, 0, 1, 0, 1, 1, 1, 1, 1, 1, 1]) (Q := F3_6C (fun y11 w => ∀ g, rsh [(11, (.one .ptr))] (upds g [(11, y11)]) fun t => Q (.exit 6) t w) (fun y10 w => ∀ g, rsh [(10, (.one .bool))] (upds g [(10, y10)]) fun t => Q .ret t w)) (G := fun n t w => F3_6 (fun y11 w => ∀ g, rsh [(11, (.one .ptr))] (upds g [(11, y11)]) fun t => Q (.exit 6) t w) (fun y10 w => ∀ g, rsh [(10, (.one .bool))] (upds g [(10, y10)]) fun t => Q .ret t w) n (t 4) (t 8) (t 11) (t 18) w) (fun _ _ h => h) (fun n t w h => ?_) n t w h).mono ?_
  · rw [F3_6_step] at h
    exact vc_sound mixed (orcNil F3_code) _ _ rfl (okC_at F3_code_ok [0, 0, 1, 0, 1, 1, 1, 1, 1, 1, 1]) _ _ _ (rsh_out h)
  · intro o t w q
    cases o with
    | normal => exact q.elim
    | exit i =>
      unfold F3_6C at q
      simp only at q
      split at q
      · rename_i hi
        rw [nbeq] at hi
        subst hi
        exact out_ok [11] q
      · exact q.elim
    | ret => exact out_ok [10] q
def F3_7C (K2 : Value → Value → Value → Value → World → Prop) : Post := fun o t w => match o with | .normal => False | .exit i => (match Nat.beq i 2 with | true => K2 (t 4) (t 8) (t 11) (t 15) w | false => False) | .ret => False
def F3_7B (R : Value → Value → Value → Value → Value → Value → Value → World → Prop) (K2 : Value → Value → Value → Value → World → Prop) (x1 : Value) (x2 : Value) (x4 : Value) (x8 : Value) (x11 : Value) (x15 : Value) (x16 : Value) (w : World) : Prop :=
  rdC x1 fun l1a l1n l1c => rdC x2 fun l2a l2n l2c => rdI .i64 x4 fun n3 => rdA x8 fun a4 => rdP x11 fun p5 => rdC x15 fun l6a l6n l6c => rdI .i64 x16 fun n7 => ldC (a4.add 10) w fun _ l8n _ => br (decide ((n7 : Int) < (l8n : Int))) (ldC (a4.add 10) w fun l9a l9n _ => ixS 2 l9a l9n n7 fun a10 => ldI .u16 (a10.add 0) w fun n11 => ∃ k22 : Nat, F3_3 (fun y1_11 y2_11 y4_11 y8_11 y11_11 y15_11 y16_11 w13 => ∀ _g14 : Tm, rdC y1_11 fun l15a l15n l15c => rdC y2_11 fun l16a l16n l16c => rdI .i64 y4_11 fun n17 => rdA y8_11 fun a18 => rdP y11_11 fun p19 => rdC y15_11 fun l20a l20n l20c => rdI .i64 y16_11 fun n21 => R (.slice l15a l15n l15c) (.slice l16a l16n l16c) (.int .i64 n17) (.pointer (some a18)) (.pointer p19) (.slice l20a l20n l20c) (.int .i64 (IntKind.wrap .i64 (n21 + 1))) w13) k22 (.slice l1a l1n l1c) (.slice l2a l2n l2c) (.int .i64 n3) (.pointer (some a4)) (.pointer p5) (.slice l6a l6n l6c) (.int .i64 n7) (.int .i64 (IntKind.wrap .i64 (n11))) w) (K2 (.int .i64 n3) (.pointer (some a4)) (.pointer p5) (.slice l6a l6n l6c) w)
def F3_7 (K2 : Value → Value → Value → Value → World → Prop) : Nat → Value → Value → Value → Value → Value → Value → Value → World → Prop
  | 0 => fun _ _ _ _ _ _ _ _ => False
  | n + 1 => F3_7B (F3_7 K2 n) K2
def F3_7O (Q : Post) (t : Tm) (w : World) : Prop := ∃ n, F3_7 (fun y4 y8 y11 y15 w => ∀ g, rsh [(4, (.one (.int .i64))), (8, (.one .adr)), (11, (.one .ptr)), (15, (.one .slc))] (upds g [(4, y4), (8, y8), (11, y11), (15, y15)]) fun t => Q (.exit 2) t w) n (t 1) (t 2) (t 4) (t 8) (t 11) (t 15) (t 16) w
theorem F3_7_step (K2 : Value → Value → Value → Value → World → Prop) (n : Nat) (t : Tm) (w : World) : (F3_7 K2 (n + 1) (t 1) (t 2) (t 4) (t 8) (t 11) (t 15) (t 16) w) = rsh [(1, (.one .slc)), (2, (.one .slc)), (4, (.one (.int .i64))), (8, (.one .adr)), (11, (.one .ptr)), (15, (.one .slc)), (16, (.one (.int .i64)))] t (fun t => vc Try.prog (orcOf [([1, 0, 0, 1, 0, 0, 1, 0, 0, 1, 0, 0, 1, 0, 1, 1, 1, 1, 1], F3_1O), ([1, 0, 0, 1, 0, 0, 1, 0, 0, 1, 0, 1, 1, 1, 1, 1], F3_2O), ([0, 1, 0, 0, 1, 0, 0, 1, 0, 1, 1, 1, 1, 1], F3_3O)]) [0, 0, 1, 0, 1, 1, 1, 1, 1] (getAt F3_code [0, 0, 1, 0, 1, 1, 1, 1, 1]) (fun o t w => match o with | .normal => F3_7 K2 n (t 1) (t 2) (t 4) (t 8) (t 11) (t 15) (t 16) w | .exit i => F3_7C K2 (.exit i) t w | .ret => F3_7C K2 .ret t w) t w) := by kernel_rfl
theorem F3_7_ok : ∀ Q t w, F3_7O Q t w → W Try.prog Try.f3.ntmps (getAt F3_code [0, 1, 0, 1, 1, 1, 1, 1]) Q t w := by
  intro Q t w ⟨n, h⟩
  refine (W_loop (P := Try.prog) (b := getAt F3_code [0, 0, 1, 0, 1, 1, 1, 1, 1]) (Q := F3_7C (fun y4 y8 y11 y15 w => ∀ g, rsh [(4, (.one (.int .i64))), (8, (.one .adr)), (11, (.one .ptr)), (15, (.one .slc))] (upds g [(4, y4), (8, y8), (11, y11), (15, y15)]) fun t => Q (.exit 2) t w)) (G := fun n t w => F3_7 (fun y4 y8 y11 y15 w => ∀ g, rsh [(4, (.one (.int .i64))), (8, (.one .adr)), (11, (.one .ptr)), (15, (.one .slc))] (upds g [(4, y4), (8, y8), (11, y11), (15, y15)]) fun t => Q (.exit 2) t w) n (t 1) (t 2) (t 4) (t 8) (t 11) (t 15) (t 16) w) (fun _ _ h => h) (fun n t w h => ?_) n t w h).mono ?_
  · rw [F3_7_step] at h
    exact vc_sound mixed (orcCons (π := [1, 0, 0, 1, 0, 0, 1, 0, 0, 1, 0, 0, 1, 0, 1, 1, 1, 1, 1]) F3_1_ok (orcCons (π := [1, 0, 0, 1, 0, 0, 1, 0, 0, 1, 0, 1, 1, 1, 1, 1]) F3_2_ok (orcCons (π := [0, 1, 0, 0, 1, 0, 0, 1, 0, 1, 1, 1, 1, 1]) F3_3_ok (orcNil F3_code)))) _ _ rfl (okC_at F3_code_ok [0, 0, 1, 0, 1, 1, 1, 1, 1]) _ _ _ (rsh_out h)
  · intro o t w q
    cases o with
    | normal => exact q.elim
    | exit i =>
      unfold F3_7C at q
      simp only at q
      split at q
      · rename_i hi
        rw [nbeq] at hi
        subst hi
        exact out_ok [4, 8, 11, 15] q
      · exact q.elim
    | ret => exact q.elim
def F3_8C (Kn : Value → Value → Value → Value → Value → Value → World → Prop) : Post := fun o t w => match o with | .normal => Kn (t 1) (t 2) (t 4) (t 8) (t 11) (t 13) w | .exit _ => (False) | .ret => False
def F3_8 (Kn : Value → Value → Value → Value → Value → Value → World → Prop) (x1 : Value) (x2 : Value) (x4 : Value) (x8 : Value) (x11 : Value) (x13 : Value) (w : World) : Prop :=
  rdC x1 fun l1a l1n l1c => rdC x2 fun l2a l2n l2c => rdI .i64 x4 fun n3 => rdA x8 fun a4 => rdP x11 fun p5 => rdI .i64 x13 fun n6 => ixS 1 l2a l2n n6 fun a7 => ldB a7 w fun b8 => br b8 (F3_5 (fun y1_8 y2_8 y4_8 y8_8 y11_8 y13_8 w10 => ∀ _g11 : Tm, rdC y1_8 fun l12a l12n l12c => rdC y2_8 fun l13a l13n l13c => rdI .i64 y4_8 fun n14 => rdA y8_8 fun a15 => rdP y11_8 fun p16 => rdI .i64 y13_8 fun n17 => Kn (.slice l12a l12n l12c) (.slice l13a l13n l13c) (.int .i64 n14) (.pointer (some a15)) (.pointer p16) (.int .i64 (IntKind.wrap .i64 (n17 + 1))) w10) (.slice l1a l1n l1c) (.slice l2a l2n l2c) (.int .i64 n3) (.pointer (some a4)) (.pointer p5) (.int .i64 n6) (.int .i64 1) w) (F3_5 (fun y1_17 y2_17 y4_17 y8_17 y11_17 y13_17 w19 => ∀ _g20 : Tm, rdC y1_17 fun l21a l21n l21c => rdC y2_17 fun l22a l22n l22c => rdI .i64 y4_17 fun n23 => rdA y8_17 fun a24 => rdP y11_17 fun p25 => rdI .i64 y13_17 fun n26 => Kn (.slice l21a l21n l21c) (.slice l22a l22n l22c) (.int .i64 n23) (.pointer (some a24)) (.pointer p25) (.int .i64 (IntKind.wrap .i64 (n26 + 1))) w19) (.slice l1a l1n l1c) (.slice l2a l2n l2c) (.int .i64 n3) (.pointer (some a4)) (.pointer p5) (.int .i64 n6) (.int .i64 0) w)
def F3_8O (Q : Post) (t : Tm) (w : World) : Prop := F3_8 (fun y1 y2 y4 y8 y11 y13 w => ∀ g, rsh [(1, (.one .slc)), (2, (.one .slc)), (4, (.one (.int .i64))), (8, (.one .adr)), (11, (.one .ptr)), (13, (.one (.int .i64)))] (upds g [(1, y1), (2, y2), (4, y4), (8, y8), (11, y11), (13, y13)]) fun t => Q .normal t w) (t 1) (t 2) (t 4) (t 8) (t 11) (t 13) w
theorem F3_8_step (Kn : Value → Value → Value → Value → Value → Value → World → Prop) (t : Tm) (w : World) : (F3_8 Kn (t 1) (t 2) (t 4) (t 8) (t 11) (t 13) w) = rsh [(1, (.one .slc)), (2, (.one .slc)), (4, (.one (.int .i64))), (8, (.one .adr)), (11, (.one .ptr)), (13, (.one (.int .i64)))] t (fun t => vc Try.prog (orcOf [([1, 1, 0, 0, 1, 0, 0, 1, 0, 1, 1, 1], F3_5O)]) [1, 0, 0, 1, 0, 1, 1, 1] (getAt F3_code [1, 0, 0, 1, 0, 1, 1, 1]) (F3_8C Kn) t w) := by kernel_rfl
theorem F3_8_ok : ∀ Q t w, F3_8O Q t w → W Try.prog Try.f3.ntmps (getAt F3_code [1, 0, 0, 1, 0, 1, 1, 1]) Q t w := by
  intro Q t w h
  unfold F3_8O at h
  rw [F3_8_step] at h
  refine (vc_sound mixed (orcCons (π := [1, 1, 0, 0, 1, 0, 0, 1, 0, 1, 1, 1]) F3_5_ok (orcNil F3_code)) _ _ rfl (okC_at F3_code_ok [1, 0, 0, 1, 0, 1, 1, 1]) _ _ _ (rsh_out h)).mono ?_
  intro o t w q
  cases o with
  | normal => exact out_ok [1, 2, 4, 8, 11, 13] q
  | exit i => exact q.elim
  | ret => exact q.elim
def F3_9C (K0 : Value → Value → Value → Value → Value → World → Prop) : Post := fun o t w => match o with | .normal => False | .exit i => (match Nat.beq i 0 with | true => K0 (t 1) (t 2) (t 4) (t 8) (t 11) w | false => False) | .ret => False
def F3_9B (R : Value → Value → Value → Value → Value → Value → World → Prop) (K0 : Value → Value → Value → Value → Value → World → Prop) (x1 : Value) (x2 : Value) (x4 : Value) (x8 : Value) (x11 : Value) (x13 : Value) (w : World) : Prop :=
  rdC x1 fun l1a l1n l1c => rdC x2 fun l2a l2n l2c => rdI .i64 x4 fun n3 => rdA x8 fun a4 => rdP x11 fun p5 => rdI .i64 x13 fun n6 => br (decide ((n6 : Int) < (l1n : Int))) (br (decide ((n6 : Int) < (l2n : Int))) (br (decide ((n6 : Int) < 60)) (F3_8 (fun y1_6 y2_6 y4_6 y8_6 y11_6 y13_6 w8 => ∀ _g9 : Tm, rdC y1_6 fun l10a l10n l10c => rdC y2_6 fun l11a l11n l11c => rdI .i64 y4_6 fun n12 => rdA y8_6 fun a13 => rdP y11_6 fun p14 => rdI .i64 y13_6 fun n15 => R (.slice l10a l10n l10c) (.slice l11a l11n l11c) (.int .i64 n12) (.pointer (some a13)) (.pointer p14) (.int .i64 n15) w8) (.slice l1a l1n l1c) (.slice l2a l2n l2c) (.int .i64 n3) (.pointer (some a4)) (.pointer p5) (.int .i64 n6) w) (K0 (.slice l1a l1n l1c) (.slice l2a l2n l2c) (.int .i64 n3) (.pointer (some a4)) (.pointer p5) w)) (K0 (.slice l1a l1n l1c) (.slice l2a l2n l2c) (.int .i64 n3) (.pointer (some a4)) (.pointer p5) w)) (K0 (.slice l1a l1n l1c) (.slice l2a l2n l2c) (.int .i64 n3) (.pointer (some a4)) (.pointer p5) w)
def F3_9 (K0 : Value → Value → Value → Value → Value → World → Prop) : Nat → Value → Value → Value → Value → Value → Value → World → Prop
  | 0 => fun _ _ _ _ _ _ _ => False
  | n + 1 => F3_9B (F3_9 K0 n) K0
def F3_9O (Q : Post) (t : Tm) (w : World) : Prop := ∃ n, F3_9 (fun y1 y2 y4 y8 y11 w => ∀ g, rsh [(1, (.one .slc)), (2, (.one .slc)), (4, (.one (.int .i64))), (8, (.one .adr)), (11, (.one .ptr))] (upds g [(1, y1), (2, y2), (4, y4), (8, y8), (11, y11)]) fun t => Q (.exit 0) t w) n (t 1) (t 2) (t 4) (t 8) (t 11) (t 13) w
theorem F3_9_step (K0 : Value → Value → Value → Value → Value → World → Prop) (n : Nat) (t : Tm) (w : World) : (F3_9 K0 (n + 1) (t 1) (t 2) (t 4) (t 8) (t 11) (t 13) w) = rsh [(1, (.one .slc)), (2, (.one .slc)), (4, (.one (.int .i64))), (8, (.one .adr)), (11, (.one .ptr)), (13, (.one (.int .i64)))] t (fun t => vc Try.prog (orcOf [([1, 1, 0, 0, 1, 0, 0, 1, 0, 1, 1, 1], F3_5O), ([1, 0, 0, 1, 0, 1, 1, 1], F3_8O)]) [0, 0, 1, 0, 1, 1, 1] (getAt F3_code [0, 0, 1, 0, 1, 1, 1]) (fun o t w => match o with | .normal => F3_9 K0 n (t 1) (t 2) (t 4) (t 8) (t 11) (t 13) w | .exit i => F3_9C K0 (.exit i) t w | .ret => F3_9C K0 .ret t w) t w) := by kernel_rfl
theorem F3_9_ok : ∀ Q t w, F3_9O Q t w → W Try.prog Try.f3.ntmps (getAt F3_code [0, 1, 0, 1, 1, 1]) Q t w := by
  intro Q t w ⟨n, h⟩
  refine (W_loop (P := Try.prog) (b := getAt F3_code [0, 0, 1, 0, 1, 1, 1]) (Q := F3_9C (fun y1 y2 y4 y8 y11 w => ∀ g, rsh [(1, (.one .slc)), (2, (.one .slc)), (4, (.one (.int .i64))), (8, (.one .adr)), (11, (.one .ptr))] (upds g [(1, y1), (2, y2), (4, y4), (8, y8), (11, y11)]) fun t => Q (.exit 0) t w)) (G := fun n t w => F3_9 (fun y1 y2 y4 y8 y11 w => ∀ g, rsh [(1, (.one .slc)), (2, (.one .slc)), (4, (.one (.int .i64))), (8, (.one .adr)), (11, (.one .ptr))] (upds g [(1, y1), (2, y2), (4, y4), (8, y8), (11, y11)]) fun t => Q (.exit 0) t w) n (t 1) (t 2) (t 4) (t 8) (t 11) (t 13) w) (fun _ _ h => h) (fun n t w h => ?_) n t w h).mono ?_
  · rw [F3_9_step] at h
    exact vc_sound mixed (orcCons (π := [1, 1, 0, 0, 1, 0, 0, 1, 0, 1, 1, 1]) F3_5_ok (orcCons (π := [1, 0, 0, 1, 0, 1, 1, 1]) F3_8_ok (orcNil F3_code))) _ _ rfl (okC_at F3_code_ok [0, 0, 1, 0, 1, 1, 1]) _ _ _ (rsh_out h)
  · intro o t w q
    cases o with
    | normal => exact q.elim
    | exit i =>
      unfold F3_9C at q
      simp only at q
      split at q
      · rename_i hi
        rw [nbeq] at hi
        subst hi
        exact out_ok [1, 2, 4, 8, 11] q
      · exact q.elim
    | ret => exact q.elim
def F3_10C (Kr : Value → World → Prop) : Post := fun o t w => match o with | .normal => False | .exit _ => (False) | .ret => Kr (t 10) w
def F3_10 (Kr : Value → World → Prop) (x1 : Value) (x2 : Value) (x4 : Value) (x8 : Value) (x11 : Value) (w : World) : Prop :=
  rdC x1 fun l1a l1n l1c => rdC x2 fun l2a l2n l2c => rdI .i64 x4 fun n3 => rdA x8 fun a4 => rdP x11 fun p5 => ∃ k52 : Nat, F3_9 (fun y1_5 y2_5 y4_5 y8_5 y11_5 w7 => ∀ _g8 : Tm, rdC y1_5 fun l9a l9n l9c => rdC y2_5 fun l10a l10n l10c => rdI .i64 y4_5 fun n11 => rdA y8_5 fun a12 => rdP y11_5 fun p13 => ∃ k51 : Nat, F3_7 (fun y4_13 y8_13 y11_13 y15_13 w15 => ∀ _g16 : Tm, rdI .i64 y4_13 fun n17 => rdA y8_13 fun a18 => rdP y11_13 fun p19 => rdC y15_13 fun l20a l20n l20c => Calls Try.prog 12 #[(.pointer p19)] w15 fun e22 w21 => ∃ n23, e22 = .returned (.int .u32 n23) ∧ (stc (a18.add 0) (.int .u8 3) w21 fun w24 => stc (a18.add 2) (.int .u32 n23) w24 fun w25 => stc (a18.add 10) (.slice l20a l20n l20c) w25 fun w26 => stc (a18.add 11) (.slice none 0 0) w26 fun w27 => ∃ k50 : Nat, F3_6 (fun y11_27 w29 => ∀ _g30 : Tm, rdP y11_27 fun p31 => Calls Try.prog 15 #[(.pointer p31)] w29 fun e33 w32 => ∃ l34a l34n l34c, e33 = .returned (.slice l34a l34n l34c) ∧ (∃ k45 : Nat, F3_4 (fun w36 => ∀ _g37 : Tm, Calls Try.prog 14 #[] w36 fun e39 w38 => ∃ b40, e39 = .returned (.bool b40) ∧ (Kr (.bool b40) w38)) (fun y10_40 w42 => ∀ _g43 : Tm, rdB y10_40 fun b44 => Kr (.bool b44) w42) k45 (.slice l34a l34n l34c) (.int .i64 0) w32)) (fun y10_45 w47 => ∀ _g48 : Tm, rdB y10_45 fun b49 => Kr (.bool b49) w47) k50 (.int .i64 n17) (.pointer (some a18)) (.pointer p19) (.int .i64 0) w27)) k51 (.slice l9a l9n l9c) (.slice l10a l10n l10c) (.int .i64 n11) (.pointer (some a12)) (.pointer p13) (.slice none 0 0) (.int .i64 0) w7) k52 (.slice l1a l1n l1c) (.slice l2a l2n l2c) (.int .i64 n3) (.pointer (some a4)) (.pointer p5) (.int .i64 0) w
def F3_10O (Q : Post) (t : Tm) (w : World) : Prop := F3_10 (fun y10 w => ∀ g, rsh [(10, (.one .bool))] (upds g [(10, y10)]) fun t => Q .ret t w) (t 1) (t 2) (t 4) (t 8) (t 11) w
theorem F3_10_step (Kr : Value → World → Prop) (t : Tm) (w : World) : (F3_10 Kr (t 1) (t 2) (t 4) (t 8) (t 11) w) = rsh [(1, (.one .slc)), (2, (.one .slc)), (4, (.one (.int .i64))), (8, (.one .adr)), (11, (.one .ptr))] t (fun t => vc Try.prog (orcOf [([1, 0, 0, 1, 0, 0, 1, 0, 0, 1, 0, 0, 1, 0, 1, 1, 1, 1, 1], F3_1O), ([1, 0, 0, 1, 0, 0, 1, 0, 0, 1, 0, 1, 1, 1, 1, 1], F3_2O), ([0, 1, 0, 0, 1, 0, 0, 1, 0, 1, 1, 1, 1, 1], F3_3O), ([0, 1, 0, 1, 1, 1, 1, 1, 1, 1, 1, 1], F3_4O), ([1, 1, 0, 0, 1, 0, 0, 1, 0, 1, 1, 1], F3_5O), ([0, 1, 0, 1, 1, 1, 1, 1, 1, 1], F3_6O), ([0, 1, 0, 1, 1, 1, 1, 1], F3_7O), ([1, 0, 0, 1, 0, 1, 1, 1], F3_8O), ([0, 1, 0, 1, 1, 1], F3_9O)]) [1, 1, 1] (getAt F3_code [1, 1, 1]) (F3_10C Kr) t w) := by kernel_rfl
theorem F3_10_ok : ∀ Q t w, F3_10O Q t w → W Try.prog Try.f3.ntmps (getAt F3_code [1, 1, 1]) Q t w := by
  intro Q t w h
  unfold F3_10O at h
  rw [F3_10_step] at h
  refine (vc_sound mixed (orcCons (π := [1, 0, 0, 1, 0, 0, 1, 0, 0, 1, 0, 0, 1, 0, 1, 1, 1, 1, 1]) F3_1_ok (orcCons (π := [1, 0, 0, 1, 0, 0, 1, 0, 0, 1, 0, 1, 1, 1, 1, 1]) F3_2_ok (orcCons (π := [0, 1, 0, 0, 1, 0, 0, 1, 0, 1, 1, 1, 1, 1]) F3_3_ok (orcCons (π := [0, 1, 0, 1, 1, 1, 1, 1, 1, 1, 1, 1]) F3_4_ok (orcCons (π := [1, 1, 0, 0, 1, 0, 0, 1, 0, 1, 1, 1]) F3_5_ok (orcCons (π := [0, 1, 0, 1, 1, 1, 1, 1, 1, 1]) F3_6_ok (orcCons (π := [0, 1, 0, 1, 1, 1, 1, 1]) F3_7_ok (orcCons (π := [1, 0, 0, 1, 0, 1, 1, 1]) F3_8_ok (orcCons (π := [0, 1, 0, 1, 1, 1]) F3_9_ok (orcNil F3_code)))))))))) _ _ rfl (okC_at F3_code_ok [1, 1, 1]) _ _ _ (rsh_out h)).mono ?_
  intro o t w q
  cases o with
  | normal => exact q.elim
  | exit i => exact q.elim
  | ret => exact out_ok [10] q
def F3 (x0 : Value) (x1 : Value) (x2 : Value) (x3 : Value) (x4 : Value) (w : World) (K : Value → World → Prop) : Prop :=
  rdI .u32 x0 fun n1 => rdC x1 fun l2a l2n l2c => rdC x2 fun l3a l3n l3c => exR30 fun s4 => x3 = s4.v ∧ (rdI .i64 x4 fun n5 => alc (.cells s4.c 31) w fun b6 w7 => Calls Try.prog 9 #[(.int .u32 n1), (.int .i64 2)] w7 fun e9 w8 => ∃ p10, ∃ n11, e9 = .returned (.tuple #[(.pointer p10), (.int .i64 n11)]) ∧ (br (n11 != 0) (K (.bool false) w8) (br (Option.isNone p10) (K (.bool false) w8) (F3_10 (fun y10_11 w13 => ∀ _g14 : Tm, rdB y10_11 fun b15 => K (.bool b15) w13) (.slice l2a l2n l2c) (.slice l3a l3n l3c) (.int .i64 n5) (.pointer (some (Addr.mk b6 0 none))) (.pointer p10) w8))))
theorem F3_step (x0 : Value) (x1 : Value) (x2 : Value) (x3 : Value) (x4 : Value) (w : World) (K : Value → World → Prop) : (F3 x0 x1 x2 x3 x4 w K) = rsh [(0, (.one (.int .u32))), (1, (.one .slc)), (2, (.one .slc)), (3, (.agg [(.int .u8), (.int .u8), (.int .u32), (.int .u16), (.int .u16), (.int .u32), (.int .u32), (.int .u32), (.int .u16), (.int .u16), .slc, .slc, .slc, .slc, .slc])), (4, (.one (.int .i64)))] (args0 #[x0, x1, x2, x3, x4]) (fun t => vc Try.prog (orcOf [([1, 0, 0, 1, 0, 0, 1, 0, 0, 1, 0, 0, 1, 0, 1, 1, 1, 1, 1], F3_1O), ([1, 0, 0, 1, 0, 0, 1, 0, 0, 1, 0, 1, 1, 1, 1, 1], F3_2O), ([0, 1, 0, 0, 1, 0, 0, 1, 0, 1, 1, 1, 1, 1], F3_3O), ([0, 1, 0, 1, 1, 1, 1, 1, 1, 1, 1, 1], F3_4O), ([1, 1, 0, 0, 1, 0, 0, 1, 0, 1, 1, 1], F3_5O), ([0, 1, 0, 1, 1, 1, 1, 1, 1, 1], F3_6O), ([0, 1, 0, 1, 1, 1, 1, 1], F3_7O), ([1, 0, 0, 1, 0, 1, 1, 1], F3_8O), ([0, 1, 0, 1, 1, 1], F3_9O), ([1, 1, 1], F3_10O)]) [] F3_code (retQ Try.prog Try.f3 K) t w) := by kernel_rfl
theorem F3_ok {x0 x1 x2 x3 x4 : Value} {w : World} {K : Value → World → Prop} (h : F3 x0 x1 x2 x3 x4 w K) : Calls Try.prog 3 #[x0, x1, x2, x3, x4] w fun e w' => ∃ v, e = .returned v ∧ K v w' := by
  rw [F3_step] at h
  exact calls_of (c := F3_code) mixed Try.func3 rfl (nlt rfl) (vc_sound mixed (orcCons (π := [1, 0, 0, 1, 0, 0, 1, 0, 0, 1, 0, 0, 1, 0, 1, 1, 1, 1, 1]) F3_1_ok (orcCons (π := [1, 0, 0, 1, 0, 0, 1, 0, 0, 1, 0, 1, 1, 1, 1, 1]) F3_2_ok (orcCons (π := [0, 1, 0, 0, 1, 0, 0, 1, 0, 1, 1, 1, 1, 1]) F3_3_ok (orcCons (π := [0, 1, 0, 1, 1, 1, 1, 1, 1, 1, 1, 1]) F3_4_ok (orcCons (π := [1, 1, 0, 0, 1, 0, 0, 1, 0, 1, 1, 1]) F3_5_ok (orcCons (π := [0, 1, 0, 1, 1, 1, 1, 1, 1, 1]) F3_6_ok (orcCons (π := [0, 1, 0, 1, 1, 1, 1, 1]) F3_7_ok (orcCons (π := [1, 0, 0, 1, 0, 1, 1, 1]) F3_8_ok (orcCons (π := [0, 1, 0, 1, 1, 1]) F3_9_ok (orcCons (π := [1, 1, 1]) F3_10_ok (orcNil F3_code))))))))))) F3_code [] rfl F3_code_ok _ _ _ (rsh_out h))

/-! ropewalk/ropewalklaw17.OutboxOwn -/
noncomputable def F4_code : Code := Try.f4.body.getD .skip
theorem F4_code_ok : okC Try.prog Try.f4.ntmps F4_code = true := by kernel_rfl
def F4_1C (K2 : Value → Value → World → Prop) : Post := fun o t w => match o with | .normal => False | .exit i => (match Nat.beq i 2 with | true => K2 (t 1) (t 5) w | false => False) | .ret => False
def F4_1B (R : Value → Value → Value → Value → Value → World → Prop) (K2 : Value → Value → World → Prop) (x1 : Value) (x5 : Value) (x11 : Value) (x87 : Value) (x88 : Value) (w : World) : Prop :=
  rdC x1 fun l1a l1n l1c => rdP x5 fun p2 => rdC x11 fun l3a l3n l3c => rdI .i64 x87 fun n4 => rdI .i64 x88 fun n5 => br (decide ((n5 : Int) < n4)) (ixS 14 l3a l3n 0 fun a6 => ldC (((a6.add 7).add 0).add 4) w fun l7a l7n _ => ixS 1 l7a l7n n5 fun a8 => stc a8 (.int .u8 0) w fun w9 => R (.slice l1a l1n l1c) (.pointer p2) (.slice l3a l3n l3c) (.int .i64 n4) (.int .i64 (IntKind.wrap .i64 (n5 + 1))) w9) (K2 (.slice l1a l1n l1c) (.pointer p2) w)
def F4_1 (K2 : Value → Value → World → Prop) : Nat → Value → Value → Value → Value → Value → World → Prop
  | 0 => fun _ _ _ _ _ _ => False
  | n + 1 => F4_1B (F4_1 K2 n) K2
def F4_1O (Q : Post) (t : Tm) (w : World) : Prop := ∃ n, F4_1 (fun y1 y5 w => ∀ g, rsh [(1, (.one .slc)), (5, (.one .ptr))] (upds g [(1, y1), (5, y5)]) fun t => Q (.exit 2) t w) n (t 1) (t 5) (t 11) (t 87) (t 88) w
theorem F4_1_step (K2 : Value → Value → World → Prop) (n : Nat) (t : Tm) (w : World) : (F4_1 K2 (n + 1) (t 1) (t 5) (t 11) (t 87) (t 88) w) = rsh [(1, (.one .slc)), (5, (.one .ptr)), (11, (.one .slc)), (87, (.one (.int .i64))), (88, (.one (.int .i64)))] t (fun t => vc Try.prog (orcOf []) [0, 0, 1, 0, 1, 1, 1, 1, 1, 1, 1, 1, 1] (getAt F4_code [0, 0, 1, 0, 1, 1, 1, 1, 1, 1, 1, 1, 1]) (fun o t w => match o with | .normal => F4_1 K2 n (t 1) (t 5) (t 11) (t 87) (t 88) w | .exit i => F4_1C K2 (.exit i) t w | .ret => F4_1C K2 .ret t w) t w) := by kernel_rfl
theorem F4_1_ok : ∀ Q t w, F4_1O Q t w → W Try.prog Try.f4.ntmps (getAt F4_code [0, 1, 0, 1, 1, 1, 1, 1, 1, 1, 1, 1]) Q t w := by
  intro Q t w ⟨n, h⟩
  refine (W_loop (P := Try.prog) (b := getAt F4_code [0, 0, 1, 0, 1, 1, 1, 1, 1, 1, 1, 1, 1]) (Q := F4_1C (fun y1 y5 w => ∀ g, rsh [(1, (.one .slc)), (5, (.one .ptr))] (upds g [(1, y1), (5, y5)]) fun t => Q (.exit 2) t w)) (G := fun n t w => F4_1 (fun y1 y5 w => ∀ g, rsh [(1, (.one .slc)), (5, (.one .ptr))] (upds g [(1, y1), (5, y5)]) fun t => Q (.exit 2) t w) n (t 1) (t 5) (t 11) (t 87) (t 88) w) (fun _ _ h => h) (fun n t w h => ?_) n t w h).mono ?_
  · rw [F4_1_step] at h
    exact vc_sound mixed (orcNil F4_code) _ _ rfl (okC_at F4_code_ok [0, 0, 1, 0, 1, 1, 1, 1, 1, 1, 1, 1, 1]) _ _ _ (rsh_out h)
  · intro o t w q
    cases o with
    | normal => exact q.elim
    | exit i =>
      unfold F4_1C at q
      simp only at q
      split at q
      · rename_i hi
        rw [nbeq] at hi
        subst hi
        exact out_ok [1, 5] q
      · exact q.elim
    | ret => exact q.elim
def F4_2C (K0 : Value → Value → World → Prop) : Post := fun o t w => match o with | .normal => False | .exit i => (match Nat.beq i 0 with | true => K0 (t 1) (t 5) w | false => False) | .ret => False
def F4_2B (R : Value → Value → Value → Value → Value → World → Prop) (K0 : Value → Value → World → Prop) (x1 : Value) (x5 : Value) (x7 : Value) (x51 : Value) (x52 : Value) (w : World) : Prop :=
  rdC x1 fun l1a l1n l1c => rdP x5 fun p2 => rdC x7 fun l3a l3n l3c => rdI .i64 x51 fun n4 => rdI .i64 x52 fun n5 => br (decide ((n5 : Int) < n4)) (ixS 1 l3a l3n n5 fun a6 => ldI .u8 a6 w fun n7 => ixS 1 l3a l3n n5 fun a8 => stc a8 (.int .u8 (bitI .xor .u8 n7 255)) w fun w9 => R (.slice l1a l1n l1c) (.pointer p2) (.slice l3a l3n l3c) (.int .i64 n4) (.int .i64 (IntKind.wrap .i64 (n5 + 1))) w9) (K0 (.slice l1a l1n l1c) (.pointer p2) w)
def F4_2 (K0 : Value → Value → World → Prop) : Nat → Value → Value → Value → Value → Value → World → Prop
  | 0 => fun _ _ _ _ _ _ => False
  | n + 1 => F4_2B (F4_2 K0 n) K0
def F4_2O (Q : Post) (t : Tm) (w : World) : Prop := ∃ n, F4_2 (fun y1 y5 w => ∀ g, rsh [(1, (.one .slc)), (5, (.one .ptr))] (upds g [(1, y1), (5, y5)]) fun t => Q (.exit 0) t w) n (t 1) (t 5) (t 7) (t 51) (t 52) w
theorem F4_2_step (K0 : Value → Value → World → Prop) (n : Nat) (t : Tm) (w : World) : (F4_2 K0 (n + 1) (t 1) (t 5) (t 7) (t 51) (t 52) w) = rsh [(1, (.one .slc)), (5, (.one .ptr)), (7, (.one .slc)), (51, (.one (.int .i64))), (52, (.one (.int .i64)))] t (fun t => vc Try.prog (orcOf []) [0, 0, 1, 0, 1, 1, 1, 1, 1, 1] (getAt F4_code [0, 0, 1, 0, 1, 1, 1, 1, 1, 1]) (fun o t w => match o with | .normal => F4_2 K0 n (t 1) (t 5) (t 7) (t 51) (t 52) w | .exit i => F4_2C K0 (.exit i) t w | .ret => F4_2C K0 .ret t w) t w) := by kernel_rfl
theorem F4_2_ok : ∀ Q t w, F4_2O Q t w → W Try.prog Try.f4.ntmps (getAt F4_code [0, 1, 0, 1, 1, 1, 1, 1, 1]) Q t w := by
  intro Q t w ⟨n, h⟩
  refine (W_loop (P := Try.prog) (b := getAt F4_code [0, 0, 1, 0, 1, 1, 1, 1, 1, 1]) (Q := F4_2C (fun y1 y5 w => ∀ g, rsh [(1, (.one .slc)), (5, (.one .ptr))] (upds g [(1, y1), (5, y5)]) fun t => Q (.exit 0) t w)) (G := fun n t w => F4_2 (fun y1 y5 w => ∀ g, rsh [(1, (.one .slc)), (5, (.one .ptr))] (upds g [(1, y1), (5, y5)]) fun t => Q (.exit 0) t w) n (t 1) (t 5) (t 7) (t 51) (t 52) w) (fun _ _ h => h) (fun n t w h => ?_) n t w h).mono ?_
  · rw [F4_2_step] at h
    exact vc_sound mixed (orcNil F4_code) _ _ rfl (okC_at F4_code_ok [0, 0, 1, 0, 1, 1, 1, 1, 1, 1]) _ _ _ (rsh_out h)
  · intro o t w q
    cases o with
    | normal => exact q.elim
    | exit i =>
      unfold F4_2C at q
      simp only at q
      split at q
      · rename_i hi
        rw [nbeq] at hi
        subst hi
        exact out_ok [1, 5] q
      · exact q.elim
    | ret => exact q.elim
def F4_3C (Kr : Value → World → Prop) : Post := fun o t w => match o with | .normal => False | .exit _ => (False) | .ret => Kr (t 4) w
def F4_3 (Kr : Value → World → Prop) (x1 : Value) (x5 : Value) (x11 : Value) (w : World) : Prop :=
  rdC x1 fun l1a l1n l1c => rdP x5 fun p2 => rdC x11 fun l3a l3n l3c => ixS 14 l3a l3n 0 fun a4 => ldC (((a4.add 7).add 0).add 4) w fun _ l5n _ => ∃ k26 : Nat, F4_1 (fun y1_5 y5_5 w7 => ∀ _g8 : Tm, rdC y1_5 fun l9a l9n l9c => rdP y5_5 fun p10 => Calls Try.prog 16 #[(.pointer p10), (.int .i64 0)] w7 fun e12 w11 => exR57 fun s13 => ∃ b14, e12 = .returned (.tuple #[s13.v, (.bool b14)]) ∧ (alc (.cells ((R57.mk 0 0 0 0 0 false 0 0 0 0 false none 0 0 false false)).c 58) w11 fun b15 w16 => stcL (Addr.mk b15 0 none) 0 s13.l w16 fun w17 => br b14 (ldC ((((Addr.mk b15 0 none).add 7).add 0).add 4) w17 fun l18a l18n l18c => ∃ s19, ∃ w20, Sem.run Try.prog (convert 23 9 (.slice l18a l18n l18c)) w17 = .ok (.string s19) w20 ∧ (∃ s21, ∃ w22, Sem.run Try.prog (convert 23 9 (.slice l9a l9n l9c)) w20 = .ok (.string s21) w22 ∧ (br (ByteArray.toList s19 == ByteArray.toList s21) (Calls Try.prog 14 #[] w22 fun e24 w23 => ∃ b25, e24 = .returned (.bool b25) ∧ (Kr (.bool b25) w23)) (Kr (.bool false) w22)))) (Kr (.bool false) w17))) k26 (.slice l1a l1n l1c) (.pointer p2) (.slice l3a l3n l3c) (.int .i64 (l5n : Int)) (.int .i64 0) w
def F4_3O (Q : Post) (t : Tm) (w : World) : Prop := F4_3 (fun y4 w => ∀ g, rsh [(4, (.one .bool))] (upds g [(4, y4)]) fun t => Q .ret t w) (t 1) (t 5) (t 11) w
theorem F4_3_step (Kr : Value → World → Prop) (t : Tm) (w : World) : (F4_3 Kr (t 1) (t 5) (t 11) w) = rsh [(1, (.one .slc)), (5, (.one .ptr)), (11, (.one .slc))] t (fun t => vc Try.prog (orcOf [([0, 1, 0, 1, 1, 1, 1, 1, 1, 1, 1, 1], F4_1O)]) [1, 1, 1, 1, 1, 1, 1, 1, 1] (getAt F4_code [1, 1, 1, 1, 1, 1, 1, 1, 1]) (F4_3C Kr) t w) := by kernel_rfl
theorem F4_3_ok : ∀ Q t w, F4_3O Q t w → W Try.prog Try.f4.ntmps (getAt F4_code [1, 1, 1, 1, 1, 1, 1, 1, 1]) Q t w := by
  intro Q t w h
  unfold F4_3O at h
  rw [F4_3_step] at h
  refine (vc_sound mixed (orcCons (π := [0, 1, 0, 1, 1, 1, 1, 1, 1, 1, 1, 1]) F4_1_ok (orcNil F4_code)) _ _ rfl (okC_at F4_code_ok [1, 1, 1, 1, 1, 1, 1, 1, 1]) _ _ _ (rsh_out h)).mono ?_
  intro o t w q
  cases o with
  | normal => exact q.elim
  | exit i => exact q.elim
  | ret => exact out_ok [4] q
def F4_4C (Kr : Value → World → Prop) : Post := fun o t w => match o with | .normal => False | .exit _ => (False) | .ret => Kr (t 4) w
def F4_4 (Kr : Value → World → Prop) (x1 : Value) (x5 : Value) (w : World) : Prop :=
  rdC x1 fun l1a l1n l1c => rdP x5 fun p2 => ∃ l3a l3n l3c, ∃ w4, Sem.run Try.prog (Instr.buildSlice 23 0 #[]) w = .ok (.slice l3a l3n l3c) w4 ∧ (∃ l5a l5n l5c w6, Sem.run Try.prog (Builtin.append_ #[23, 23] 23 #[(.slice l3a l3n l3c), (.slice l1a l1n l1c)]) w4 = .ok (.slice l5a l5n l5c) w6 ∧ (Calls Try.prog 10 #[(.pointer p2), (.int .i64 0), (.agg #[(.int .u16 0), (.int .u16 0), (.int .u32 0), (.bool false), (.slice l5a l5n l5c), (.bool false), (.bool false)]), (.int .i64 0)] w6 fun e8 w7 => ∃ n9, ∃ n10, e8 = .returned (.tuple #[(.int .u32 n9), (.int .i64 n10)]) ∧ (br (n10 != 0) (br ((l1n : Int) == 0) (Calls Try.prog 14 #[] w7 fun e12 w11 => ∃ b13, e12 = .returned (.bool b13) ∧ (Kr (.bool b13) w11)) (br (decide (((l1n : Int) : Int) > 65536)) (Calls Try.prog 14 #[] w7 fun e15 w14 => ∃ b16, e15 = .returned (.bool b16) ∧ (Kr (.bool b16) w14)) (Kr (.bool false) w7))) (∃ k44 : Nat, F4_2 (fun y1_16 y5_16 w18 => ∀ _g19 : Tm, rdC y1_16 fun l20a l20n l20c => rdP y5_16 fun p21 => Calls Try.prog 15 #[(.pointer p21)] w18 fun e23 w22 => ∃ l24a l24n l24c, e23 = .returned (.slice l24a l24n l24c) ∧ (drw w22 fun w25 => br ((l24n : Int) != 1) (((Kr (.bool false) w25) ∧ (Kr (.bool false) w25))) (ixS 14 l24a l24n 0 fun a26 => ldC (((a26.add 7).add 0).add 4) w25 fun l27a l27n l27c => ((∃ s28, ∃ w29, Sem.run Try.prog (convert 23 9 (.slice l27a l27n l27c)) w25 = .ok (.string s28) w29 ∧ (∃ s30, ∃ w31, Sem.run Try.prog (convert 23 9 (.slice l20a l20n l20c)) w29 = .ok (.string s30) w31 ∧ (Pres w25 w31 ∧ (br (!(ByteArray.toList s28 == ByteArray.toList s30)) (Kr (.bool false) w31) (F4_3 (fun y4_31 w33 => ∀ _g34 : Tm, rdB y4_31 fun b35 => Kr (.bool b35) w33) (.slice l20a l20n l20c) (.pointer p21) (.slice l24a l24n l24c) w31))))) ∧ (∃ s36, ∃ w37, Sem.run Try.prog (convert 23 9 (.slice l20a l20n l20c)) w25 = .ok (.string s36) w37 ∧ (Pres w25 w37 ∧ (∃ s38, ∃ w39, Sem.run Try.prog (convert 23 9 (.slice l27a l27n l27c)) w37 = .ok (.string s38) w39 ∧ (br (!(ByteArray.toList s38 == ByteArray.toList s36)) (Kr (.bool false) w39) (F4_3 (fun y4_39 w41 => ∀ _g42 : Tm, rdB y4_39 fun b43 => Kr (.bool b43) w41) (.slice l20a l20n l20c) (.pointer p21) (.slice l24a l24n l24c) w39))))))))) k44 (.slice l1a l1n l1c) (.pointer p2) (.slice l5a l5n l5c) (.int .i64 (l5n : Int)) (.int .i64 0) w7))))
def F4_4O (Q : Post) (t : Tm) (w : World) : Prop := F4_4 (fun y4 w => ∀ g, rsh [(4, (.one .bool))] (upds g [(4, y4)]) fun t => Q .ret t w) (t 1) (t 5) w
theorem F4_4_step (Kr : Value → World → Prop) (t : Tm) (w : World) : (F4_4 Kr (t 1) (t 5) w) = rsh [(1, (.one .slc)), (5, (.one .ptr))] t (fun t => vc Try.prog (orcOf [([0, 1, 0, 1, 1, 1, 1, 1, 1, 1, 1, 1], F4_1O), ([0, 1, 0, 1, 1, 1, 1, 1, 1], F4_2O), ([1, 1, 1, 1, 1, 1, 1, 1, 1], F4_3O)]) [1, 1, 1] (getAt F4_code [1, 1, 1]) (F4_4C Kr) t w) := by kernel_rfl
theorem F4_4_ok : ∀ Q t w, F4_4O Q t w → W Try.prog Try.f4.ntmps (getAt F4_code [1, 1, 1]) Q t w := by
  intro Q t w h
  unfold F4_4O at h
  rw [F4_4_step] at h
  refine (vc_sound mixed (orcCons (π := [0, 1, 0, 1, 1, 1, 1, 1, 1, 1, 1, 1]) F4_1_ok (orcCons (π := [0, 1, 0, 1, 1, 1, 1, 1, 1]) F4_2_ok (orcCons (π := [1, 1, 1, 1, 1, 1, 1, 1, 1]) F4_3_ok (orcNil F4_code)))) _ _ rfl (okC_at F4_code_ok [1, 1, 1]) _ _ _ (rsh_out h)).mono ?_
  intro o t w q
  cases o with
  | normal => exact q.elim
  | exit i => exact q.elim
  | ret => exact out_ok [4] q
def F4 (x0 : Value) (x1 : Value) (w : World) (K : Value → World → Prop) : Prop :=
  rdI .u32 x0 fun n1 => rdC x1 fun l2a l2n l2c => Calls Try.prog 9 #[(.int .u32 n1), (.int .i64 1)] w fun e4 w3 => ∃ p5, ∃ n6, e4 = .returned (.tuple #[(.pointer p5), (.int .i64 n6)]) ∧ (br (n6 != 0) (K (.bool false) w3) (br (Option.isNone p5) (K (.bool false) w3) (F4_4 (fun y4_6 w8 => ∀ _g9 : Tm, rdB y4_6 fun b10 => K (.bool b10) w8) (.slice l2a l2n l2c) (.pointer p5) w3)))
theorem F4_step (x0 : Value) (x1 : Value) (w : World) (K : Value → World → Prop) : (F4 x0 x1 w K) = rsh [(0, (.one (.int .u32))), (1, (.one .slc))] (args0 #[x0, x1]) (fun t => vc Try.prog (orcOf [([0, 1, 0, 1, 1, 1, 1, 1, 1, 1, 1, 1], F4_1O), ([0, 1, 0, 1, 1, 1, 1, 1, 1], F4_2O), ([1, 1, 1, 1, 1, 1, 1, 1, 1], F4_3O), ([1, 1, 1], F4_4O)]) [] F4_code (retQ Try.prog Try.f4 K) t w) := by kernel_rfl
theorem F4_ok {x0 x1 : Value} {w : World} {K : Value → World → Prop} (h : F4 x0 x1 w K) : Calls Try.prog 4 #[x0, x1] w fun e w' => ∃ v, e = .returned v ∧ K v w' := by
  rw [F4_step] at h
  exact calls_of (c := F4_code) mixed Try.func4 rfl (nlt rfl) (vc_sound mixed (orcCons (π := [0, 1, 0, 1, 1, 1, 1, 1, 1, 1, 1, 1]) F4_1_ok (orcCons (π := [0, 1, 0, 1, 1, 1, 1, 1, 1]) F4_2_ok (orcCons (π := [1, 1, 1, 1, 1, 1, 1, 1, 1]) F4_3_ok (orcCons (π := [1, 1, 1]) F4_4_ok (orcNil F4_code))))) F4_code [] rfl F4_code_ok _ _ _ (rsh_out h))

/-! ropewalk/ropewalklaw17.OutboxOnce -/
noncomputable def F5_code : Code := Try.f5.body.getD .skip
theorem F5_code_ok : okC Try.prog Try.f5.ntmps F5_code = true := by kernel_rfl
def F5_1C (K2 : Value → Value → Value → Value → Value → Value → Value → World → Prop) : Post := fun o t w => match o with | .normal => False | .exit i => (match Nat.beq i 2 with | true => K2 (t 2) (t 7) (t 9) (t 11) (t 12) (t 13) (t 18) w | false => False) | .ret => False
def F5_1B (R : Value → Value → Value → Value → Value → Value → Value → Value → Value → World → Prop) (K2 : Value → Value → Value → Value → Value → Value → Value → World → Prop) (x2 : Value) (x7 : Value) (x9 : Value) (x11 : Value) (x12 : Value) (x13 : Value) (x18 : Value) (x19 : Value) (x20 : Value) (w : World) : Prop :=
  rdC x2 fun l1a l1n l1c => rdP x7 fun p2 => rdP x9 fun p3 => rdI .i64 x11 fun n4 => rdI .i64 x12 fun n5 => rdI .i64 x13 fun n6 => rdI .i64 x18 fun n7 => rdC x19 fun l8a l8n l8c => rdI .i64 x20 fun n9 => br (decide ((n9 : Int) < (l8n : Int))) (ixS 14 l8a l8n n9 fun a10 => ldI .i64 (a10.add 6) w fun n11 => br (n11 != 4) (ixS 14 l8a l8n n9 fun a12 => ldC (((a12.add 7).add 0).add 4) w fun _ l13n _ => R (.slice l1a l1n l1c) (.pointer p2) (.pointer p3) (.int .i64 n4) (.int .i64 n5) (.int .i64 n6) (.int .i64 (IntKind.wrap .i64 (n7 + (l13n : Int)))) (.slice l8a l8n l8c) (.int .i64 (IntKind.wrap .i64 (n9 + 1))) w) (R (.slice l1a l1n l1c) (.pointer p2) (.pointer p3) (.int .i64 n4) (.int .i64 n5) (.int .i64 n6) (.int .i64 n7) (.slice l8a l8n l8c) (.int .i64 (IntKind.wrap .i64 (n9 + 1))) w)) (K2 (.slice l1a l1n l1c) (.pointer p2) (.pointer p3) (.int .i64 n4) (.int .i64 n5) (.int .i64 n6) (.int .i64 n7) w)
def F5_1 (K2 : Value → Value → Value → Value → Value → Value → Value → World → Prop) : Nat → Value → Value → Value → Value → Value → Value → Value → Value → Value → World → Prop
  | 0 => fun _ _ _ _ _ _ _ _ _ _ => False
  | n + 1 => F5_1B (F5_1 K2 n) K2
def F5_1O (Q : Post) (t : Tm) (w : World) : Prop := ∃ n, F5_1 (fun y2 y7 y9 y11 y12 y13 y18 w => ∀ g, rsh [(2, (.one .slc)), (7, (.one .ptr)), (9, (.one .ptr)), (11, (.one (.int .i64))), (12, (.one (.int .i64))), (13, (.one (.int .i64))), (18, (.one (.int .i64)))] (upds g [(2, y2), (7, y7), (9, y9), (11, y11), (12, y12), (13, y13), (18, y18)]) fun t => Q (.exit 2) t w) n (t 2) (t 7) (t 9) (t 11) (t 12) (t 13) (t 18) (t 19) (t 20) w
theorem F5_1_step (K2 : Value → Value → Value → Value → Value → Value → Value → World → Prop) (n : Nat) (t : Tm) (w : World) : (F5_1 K2 (n + 1) (t 2) (t 7) (t 9) (t 11) (t 12) (t 13) (t 18) (t 19) (t 20) w) = rsh [(2, (.one .slc)), (7, (.one .ptr)), (9, (.one .ptr)), (11, (.one (.int .i64))), (12, (.one (.int .i64))), (13, (.one (.int .i64))), (18, (.one (.int .i64))), (19, (.one .slc)), (20, (.one (.int .i64)))] t (fun t => vc Try.prog (orcOf []) [0, 0, 1, 0, 1, 1, 1, 1, 1, 1, 1, 1, 0, 0, 1, 0, 0, 1, 0, 1, 1, 1, 1, 1] (getAt F5_code [0, 0, 1, 0, 1, 1, 1, 1, 1, 1, 1, 1, 0, 0, 1, 0, 0, 1, 0, 1, 1, 1, 1, 1]) (fun o t w => match o with | .normal => F5_1 K2 n (t 2) (t 7) (t 9) (t 11) (t 12) (t 13) (t 18) (t 19) (t 20) w | .exit i => F5_1C K2 (.exit i) t w | .ret => F5_1C K2 .ret t w) t w) := by kernel_rfl
theorem F5_1_ok : ∀ Q t w, F5_1O Q t w → W Try.prog Try.f5.ntmps (getAt F5_code [0, 1, 0, 1, 1, 1, 1, 1, 1, 1, 1, 0, 0, 1, 0, 0, 1, 0, 1, 1, 1, 1, 1]) Q t w := by
  intro Q t w ⟨n, h⟩
  refine (W_loop (P := Try.prog) (b := getAt F5_code [0, 0, 1, 0, 1, 1, 1, 1, 1, 1, 1, 1, 0, 0, 1, 0, 0, 1, 0, 1, 1, 1, 1, 1]) (Q := F5_1C (fun y2 y7 y9 y11 y12 y13 y18 w => ∀ g, rsh [(2, (.one .slc)), (7, (.one .ptr)), (9, (.one .ptr)), (11, (.one (.int .i64))), (12, (.one (.int .i64))), (13, (.one (.int .i64))), (18, (.one (.int .i64)))] (upds g [(2, y2), (7, y7), (9, y9), (11, y11), (12, y12), (13, y13), (18, y18)]) fun t => Q (.exit 2) t w)) (G := fun n t w => F5_1 (fun y2 y7 y9 y11 y12 y13 y18 w => ∀ g, rsh [(2, (.one .slc)), (7, (.one .ptr)), (9, (.one .ptr)), (11, (.one (.int .i64))), (12, (.one (.int .i64))), (13, (.one (.int .i64))), (18, (.one (.int .i64)))] (upds g [(2, y2), (7, y7), (9, y9), (11, y11), (12, y12), (13, y13), (18, y18)]) fun t => Q (.exit 2) t w) n (t 2) (t 7) (t 9) (t 11) (t 12) (t 13) (t 18) (t 19) (t 20) w) (fun _ _ h => h) (fun n t w h => ?_) n t w h).mono ?_
  · rw [F5_1_step] at h
    exact vc_sound mixed (orcNil F5_code) _ _ rfl (okC_at F5_code_ok [0, 0, 1, 0, 1, 1, 1, 1, 1, 1, 1, 1, 0, 0, 1, 0, 0, 1, 0, 1, 1, 1, 1, 1]) _ _ _ (rsh_out h)
  · intro o t w q
    cases o with
    | normal => exact q.elim
    | exit i =>
      unfold F5_1C at q
      simp only at q
      split at q
      · rename_i hi
        rw [nbeq] at hi
        subst hi
        exact out_ok [2, 7, 9, 11, 12, 13, 18] q
      · exact q.elim
    | ret => exact q.elim
def F5_2C (Kn : Value → Value → Value → Value → Value → Value → Value → World → Prop) (Kr : Value → World → Prop) : Post := fun o t w => match o with | .normal => Kn (t 2) (t 7) (t 9) (t 11) (t 12) (t 13) (t 16) w | .exit _ => (False) | .ret => Kr (t 6) w
def F5_2 (Kn : Value → Value → Value → Value → Value → Value → Value → World → Prop) (Kr : Value → World → Prop) (x2 : Value) (x7 : Value) (x9 : Value) (x11 : Value) (x12 : Value) (x13 : Value) (x14 : Value) (x16 : Value) (x86 : Value) (w : World) : Prop :=
  rdC x2 fun l1a l1n l1c => rdP x7 fun p2 => rdP x9 fun p3 => rdI .i64 x11 fun n4 => rdI .i64 x12 fun n5 => rdI .i64 x13 fun n6 => rdI .i64 x14 fun n7 => rdA x16 fun a8 => rdB x86 fun b9 => br b9 (ixS 26 l1a l1n n6 fun a10 => ldC (((a10.add 3).add 0).add 4) w fun _ l11n _ => Calls Try.prog 18 #[(.pointer p2)] w fun e13 w12 => ∃ n14, e13 = .returned (.int .i64 n14) ∧ (br (n14 != (IntKind.wrap .i64 (n7 + 1))) (Kr (.bool false) w12) (Kn (.slice l1a l1n l1c) (.pointer p2) (.pointer p3) (.int .i64 (IntKind.wrap .i64 (n4 + (l11n : Int)))) (.int .i64 n5) (.int .i64 n6) (.pointer (some a8)) w12))) (Kn (.slice l1a l1n l1c) (.pointer p2) (.pointer p3) (.int .i64 n4) (.int .i64 n5) (.int .i64 n6) (.pointer (some a8)) w)
def F5_2O (Q : Post) (t : Tm) (w : World) : Prop := F5_2 (fun y2 y7 y9 y11 y12 y13 y16 w => ∀ g, rsh [(2, (.one .slc)), (7, (.one .ptr)), (9, (.one .ptr)), (11, (.one (.int .i64))), (12, (.one (.int .i64))), (13, (.one (.int .i64))), (16, (.one .adr))] (upds g [(2, y2), (7, y7), (9, y9), (11, y11), (12, y12), (13, y13), (16, y16)]) fun t => Q .normal t w) (fun y6 w => ∀ g, rsh [(6, (.one .bool))] (upds g [(6, y6)]) fun t => Q .ret t w) (t 2) (t 7) (t 9) (t 11) (t 12) (t 13) (t 14) (t 16) (t 86) w
theorem F5_2_step (Kn : Value → Value → Value → Value → Value → Value → Value → World → Prop) (Kr : Value → World → Prop) (t : Tm) (w : World) : (F5_2 Kn Kr (t 2) (t 7) (t 9) (t 11) (t 12) (t 13) (t 14) (t 16) (t 86) w) = rsh [(2, (.one .slc)), (7, (.one .ptr)), (9, (.one .ptr)), (11, (.one (.int .i64))), (12, (.one (.int .i64))), (13, (.one (.int .i64))), (14, (.one (.int .i64))), (16, (.one .adr)), (86, (.one .bool))] t (fun t => vc Try.prog (orcOf []) [1, 0, 1, 1, 1, 1, 0, 0, 1, 0, 0, 1, 0, 1, 1, 1, 1, 1] (getAt F5_code [1, 0, 1, 1, 1, 1, 0, 0, 1, 0, 0, 1, 0, 1, 1, 1, 1, 1]) (F5_2C Kn Kr) t w) := by kernel_rfl
theorem F5_2_ok : ∀ Q t w, F5_2O Q t w → W Try.prog Try.f5.ntmps (getAt F5_code [1, 0, 1, 1, 1, 1, 0, 0, 1, 0, 0, 1, 0, 1, 1, 1, 1, 1]) Q t w := by
  intro Q t w h
  unfold F5_2O at h
  rw [F5_2_step] at h
  refine (vc_sound mixed (orcNil F5_code) _ _ rfl (okC_at F5_code_ok [1, 0, 1, 1, 1, 1, 0, 0, 1, 0, 0, 1, 0, 1, 1, 1, 1, 1]) _ _ _ (rsh_out h)).mono ?_
  intro o t w q
  cases o with
  | normal => exact out_ok [2, 7, 9, 11, 12, 13, 16] q
  | exit i => exact q.elim
  | ret => exact out_ok [6] q
def F5_3C (Kn : Value → Value → Value → Value → Value → Value → World → Prop) (Kr : Value → World → Prop) : Post := fun o t w => match o with | .normal => Kn (t 2) (t 7) (t 9) (t 11) (t 12) (t 13) w | .exit _ => (False) | .ret => Kr (t 6) w
def F5_3 (Kn : Value → Value → Value → Value → Value → Value → World → Prop) (Kr : Value → World → Prop) (x2 : Value) (x7 : Value) (x9 : Value) (x11 : Value) (x12 : Value) (x13 : Value) (x16 : Value) (w : World) : Prop :=
  rdC x2 fun l1a l1n l1c => rdP x7 fun p2 => rdP x9 fun p3 => rdI .i64 x11 fun n4 => rdI .i64 x12 fun n5 => rdI .i64 x13 fun n6 => rdA x16 fun a7 => ldI .i64 (a7.add 1) w fun n8 => Calls Try.prog 15 #[(.pointer p2)] w fun e10 w9 => ∃ l11a l11n l11c, e10 = .returned (.slice l11a l11n l11c) ∧ (∃ k22 : Nat, F5_1 (fun y2_11 y7_11 y9_11 y11_11 y12_11 y13_11 y18_11 w13 => ∀ _g14 : Tm, rdC y2_11 fun l15a l15n l15c => rdP y7_11 fun p16 => rdP y9_11 fun p17 => rdI .i64 y11_11 fun n18 => rdI .i64 y12_11 fun n19 => rdI .i64 y13_11 fun n20 => rdI .i64 y18_11 fun n21 => br (n18 != (IntKind.wrap .i64 (n19 + n21))) (Kr (.bool false) w13) (Kn (.slice l15a l15n l15c) (.pointer p16) (.pointer p17) (.int .i64 n18) (.int .i64 n19) (.int .i64 n20) w13)) k22 (.slice l1a l1n l1c) (.pointer p2) (.pointer p3) (.int .i64 n4) (.int .i64 (IntKind.wrap .i64 (n5 + n8))) (.int .i64 n6) (.int .i64 0) (.slice l11a l11n l11c) (.int .i64 0) w9)
def F5_3O (Q : Post) (t : Tm) (w : World) : Prop := F5_3 (fun y2 y7 y9 y11 y12 y13 w => ∀ g, rsh [(2, (.one .slc)), (7, (.one .ptr)), (9, (.one .ptr)), (11, (.one (.int .i64))), (12, (.one (.int .i64))), (13, (.one (.int .i64)))] (upds g [(2, y2), (7, y7), (9, y9), (11, y11), (12, y12), (13, y13)]) fun t => Q .normal t w) (fun y6 w => ∀ g, rsh [(6, (.one .bool))] (upds g [(6, y6)]) fun t => Q .ret t w) (t 2) (t 7) (t 9) (t 11) (t 12) (t 13) (t 16) w
theorem F5_3_step (Kn : Value → Value → Value → Value → Value → Value → World → Prop) (Kr : Value → World → Prop) (t : Tm) (w : World) : (F5_3 Kn Kr (t 2) (t 7) (t 9) (t 11) (t 12) (t 13) (t 16) w) = rsh [(2, (.one .slc)), (7, (.one .ptr)), (9, (.one .ptr)), (11, (.one (.int .i64))), (12, (.one (.int .i64))), (13, (.one (.int .i64))), (16, (.one .adr))] t (fun t => vc Try.prog (orcOf [([0, 1, 0, 1, 1, 1, 1, 1, 1, 1, 1, 0, 0, 1, 0, 0, 1, 0, 1, 1, 1, 1, 1], F5_1O)]) [1, 1, 1, 1, 1, 0, 0, 1, 0, 0, 1, 0, 1, 1, 1, 1, 1] (getAt F5_code [1, 1, 1, 1, 1, 0, 0, 1, 0, 0, 1, 0, 1, 1, 1, 1, 1]) (F5_3C Kn Kr) t w) := by kernel_rfl
theorem F5_3_ok : ∀ Q t w, F5_3O Q t w → W Try.prog Try.f5.ntmps (getAt F5_code [1, 1, 1, 1, 1, 0, 0, 1, 0, 0, 1, 0, 1, 1, 1, 1, 1]) Q t w := by
  intro Q t w h
  unfold F5_3O at h
  rw [F5_3_step] at h
  refine (vc_sound mixed (orcCons (π := [0, 1, 0, 1, 1, 1, 1, 1, 1, 1, 1, 0, 0, 1, 0, 0, 1, 0, 1, 1, 1, 1, 1]) F5_1_ok (orcNil F5_code)) _ _ rfl (okC_at F5_code_ok [1, 1, 1, 1, 1, 0, 0, 1, 0, 0, 1, 0, 1, 1, 1, 1, 1]) _ _ _ (rsh_out h)).mono ?_
  intro o t w q
  cases o with
  | normal => exact out_ok [2, 7, 9, 11, 12, 13] q
  | exit i => exact q.elim
  | ret => exact out_ok [6] q
def F5_4C (Kn : Value → Value → Value → Value → Value → Value → World → Prop) (Kr : Value → World → Prop) : Post := fun o t w => match o with | .normal => Kn (t 2) (t 7) (t 9) (t 11) (t 12) (t 13) w | .exit _ => (False) | .ret => Kr (t 6) w
def F5_4 (Kn : Value → Value → Value → Value → Value → Value → World → Prop) (Kr : Value → World → Prop) (x2 : Value) (x7 : Value) (x9 : Value) (x11 : Value) (x12 : Value) (x13 : Value) (w : World) : Prop :=
  rdC x2 fun l1a l1n l1c => rdP x7 fun p2 => rdP x9 fun p3 => rdI .i64 x11 fun n4 => rdI .i64 x12 fun n5 => rdI .i64 x13 fun n6 => Calls Try.prog 18 #[(.pointer p2)] w fun e8 w7 => ∃ n9, e8 = .returned (.int .i64 n9) ∧ (Calls Try.prog 19 #[(.pointer p2)] w7 fun e11 w10 => ∃ n12, e11 = .returned (.int .u32 n12) ∧ (ixS 26 l1a l1n n6 fun a13 => ldR70 a13 w10 fun s14 => Calls Try.prog 20 #[(.pointer p2), (.pointer p3), s14.v] w10 fun e16 w15 => exR47 fun s17 => ∃ b18, e16 = .returned (.tuple #[s17.v, (.bool b18)]) ∧ (alc (.cells ((R47.mk none 0 0 0 0)).c 48) w15 fun b19 w20 => stcL (Addr.mk b19 0 none) 0 s17.l w20 fun w21 => br (!b18) (Kr (.bool false) w21) (ixS 26 l1a l1n n6 fun a22 => ldI .i64 (a22.add 0) w21 fun n23 => br (n23 == 1) (Calls Try.prog 19 #[(.pointer p2)] w21 fun e25 w24 => ∃ n26, e25 = .returned (.int .u32 n26) ∧ (F5_2 (fun y2_26 y7_26 y9_26 y11_26 y12_26 y13_26 y16_26 w28 => ∀ _g29 : Tm, rdC y2_26 fun l30a l30n l30c => rdP y7_26 fun p31 => rdP y9_26 fun p32 => rdI .i64 y11_26 fun n33 => rdI .i64 y12_26 fun n34 => rdI .i64 y13_26 fun n35 => rdA y16_26 fun a36 => F5_3 (fun y2_36 y7_36 y9_36 y11_36 y12_36 y13_36 w38 => ∀ _g39 : Tm, rdC y2_36 fun l40a l40n l40c => rdP y7_36 fun p41 => rdP y9_36 fun p42 => rdI .i64 y11_36 fun n43 => rdI .i64 y12_36 fun n44 => rdI .i64 y13_36 fun n45 => Kn (.slice l40a l40n l40c) (.pointer p41) (.pointer p42) (.int .i64 n43) (.int .i64 n44) (.int .i64 (IntKind.wrap .i64 (n45 + 1))) w38) (fun y6_45 w47 => ∀ _g48 : Tm, rdB y6_45 fun b49 => Kr (.bool b49) w47) (.slice l30a l30n l30c) (.pointer p31) (.pointer p32) (.int .i64 n33) (.int .i64 n34) (.int .i64 n35) (.pointer (some a36)) w28) (fun y6_49 w51 => ∀ _g52 : Tm, rdB y6_49 fun b53 => Kr (.bool b53) w51) (.slice l1a l1n l1c) (.pointer p2) (.pointer p3) (.int .i64 n4) (.int .i64 n5) (.int .i64 n6) (.int .i64 n9) (.pointer (some (Addr.mk b19 0 none))) (.bool (n26 != n12)) w24)) (F5_2 (fun y2_53 y7_53 y9_53 y11_53 y12_53 y13_53 y16_53 w55 => ∀ _g56 : Tm, rdC y2_53 fun l57a l57n l57c => rdP y7_53 fun p58 => rdP y9_53 fun p59 => rdI .i64 y11_53 fun n60 => rdI .i64 y12_53 fun n61 => rdI .i64 y13_53 fun n62 => rdA y16_53 fun a63 => F5_3 (fun y2_63 y7_63 y9_63 y11_63 y12_63 y13_63 w65 => ∀ _g66 : Tm, rdC y2_63 fun l67a l67n l67c => rdP y7_63 fun p68 => rdP y9_63 fun p69 => rdI .i64 y11_63 fun n70 => rdI .i64 y12_63 fun n71 => rdI .i64 y13_63 fun n72 => Kn (.slice l67a l67n l67c) (.pointer p68) (.pointer p69) (.int .i64 n70) (.int .i64 n71) (.int .i64 (IntKind.wrap .i64 (n72 + 1))) w65) (fun y6_72 w74 => ∀ _g75 : Tm, rdB y6_72 fun b76 => Kr (.bool b76) w74) (.slice l57a l57n l57c) (.pointer p58) (.pointer p59) (.int .i64 n60) (.int .i64 n61) (.int .i64 n62) (.pointer (some a63)) w55) (fun y6_76 w78 => ∀ _g79 : Tm, rdB y6_76 fun b80 => Kr (.bool b80) w78) (.slice l1a l1n l1c) (.pointer p2) (.pointer p3) (.int .i64 n4) (.int .i64 n5) (.int .i64 n6) (.int .i64 n9) (.pointer (some (Addr.mk b19 0 none))) (.bool false) w21)))))
def F5_4O (Q : Post) (t : Tm) (w : World) : Prop := F5_4 (fun y2 y7 y9 y11 y12 y13 w => ∀ g, rsh [(2, (.one .slc)), (7, (.one .ptr)), (9, (.one .ptr)), (11, (.one (.int .i64))), (12, (.one (.int .i64))), (13, (.one (.int .i64)))] (upds g [(2, y2), (7, y7), (9, y9), (11, y11), (12, y12), (13, y13)]) fun t => Q .normal t w) (fun y6 w => ∀ g, rsh [(6, (.one .bool))] (upds g [(6, y6)]) fun t => Q .ret t w) (t 2) (t 7) (t 9) (t 11) (t 12) (t 13) w
theorem F5_4_step (Kn : Value → Value → Value → Value → Value → Value → World → Prop) (Kr : Value → World → Prop) (t : Tm) (w : World) : (F5_4 Kn Kr (t 2) (t 7) (t 9) (t 11) (t 12) (t 13) w) = rsh [(2, (.one .slc)), (7, (.one .ptr)), (9, (.one .ptr)), (11, (.one (.int .i64))), (12, (.one (.int .i64))), (13, (.one (.int .i64)))] t (fun t => vc Try.prog (orcOf [([0, 1, 0, 1, 1, 1, 1, 1, 1, 1, 1, 0, 0, 1, 0, 0, 1, 0, 1, 1, 1, 1, 1], F5_1O), ([1, 0, 1, 1, 1, 1, 0, 0, 1, 0, 0, 1, 0, 1, 1, 1, 1, 1], F5_2O), ([1, 1, 1, 1, 1, 0, 0, 1, 0, 0, 1, 0, 1, 1, 1, 1, 1], F5_3O)]) [1, 0, 0, 1, 0, 1, 1, 1, 1, 1] (getAt F5_code [1, 0, 0, 1, 0, 1, 1, 1, 1, 1]) (F5_4C Kn Kr) t w) := by kernel_rfl
theorem F5_4_ok : ∀ Q t w, F5_4O Q t w → W Try.prog Try.f5.ntmps (getAt F5_code [1, 0, 0, 1, 0, 1, 1, 1, 1, 1]) Q t w := by
  intro Q t w h
  unfold F5_4O at h
  rw [F5_4_step] at h
  refine (vc_sound mixed (orcCons (π := [0, 1, 0, 1, 1, 1, 1, 1, 1, 1, 1, 0, 0, 1, 0, 0, 1, 0, 1, 1, 1, 1, 1]) F5_1_ok (orcCons (π := [1, 0, 1, 1, 1, 1, 0, 0, 1, 0, 0, 1, 0, 1, 1, 1, 1, 1]) F5_2_ok (orcCons (π := [1, 1, 1, 1, 1, 0, 0, 1, 0, 0, 1, 0, 1, 1, 1, 1, 1]) F5_3_ok (orcNil F5_code)))) _ _ rfl (okC_at F5_code_ok [1, 0, 0, 1, 0, 1, 1, 1, 1, 1]) _ _ _ (rsh_out h)).mono ?_
  intro o t w q
  cases o with
  | normal => exact out_ok [2, 7, 9, 11, 12, 13] q
  | exit i => exact q.elim
  | ret => exact out_ok [6] q
def F5_5C (K0 : World → Prop) (Kr : Value → World → Prop) : Post := fun o t w => match o with | .normal => False | .exit i => (match Nat.beq i 0 with | true => K0  w | false => False) | .ret => Kr (t 6) w
def F5_5B (R : Value → Value → Value → Value → Value → Value → World → Prop) (K0 : World → Prop) (Kr : Value → World → Prop) (x2 : Value) (x7 : Value) (x9 : Value) (x11 : Value) (x12 : Value) (x13 : Value) (w : World) : Prop :=
  rdC x2 fun l1a l1n l1c => rdP x7 fun p2 => rdP x9 fun p3 => rdI .i64 x11 fun n4 => rdI .i64 x12 fun n5 => rdI .i64 x13 fun n6 => br (decide ((n6 : Int) < (l1n : Int))) (br (decide ((n6 : Int) < 120)) (F5_4 (fun y2_6 y7_6 y9_6 y11_6 y12_6 y13_6 w8 => ∀ _g9 : Tm, rdC y2_6 fun l10a l10n l10c => rdP y7_6 fun p11 => rdP y9_6 fun p12 => rdI .i64 y11_6 fun n13 => rdI .i64 y12_6 fun n14 => rdI .i64 y13_6 fun n15 => R (.slice l10a l10n l10c) (.pointer p11) (.pointer p12) (.int .i64 n13) (.int .i64 n14) (.int .i64 n15) w8) (fun y6_15 w17 => ∀ _g18 : Tm, rdB y6_15 fun b19 => Kr (.bool b19) w17) (.slice l1a l1n l1c) (.pointer p2) (.pointer p3) (.int .i64 n4) (.int .i64 n5) (.int .i64 n6) w) (K0 w)) (K0 w)
def F5_5 (K0 : World → Prop) (Kr : Value → World → Prop) : Nat → Value → Value → Value → Value → Value → Value → World → Prop
  | 0 => fun _ _ _ _ _ _ _ => False
  | n + 1 => F5_5B (F5_5 K0 Kr n) K0 Kr
def F5_5O (Q : Post) (t : Tm) (w : World) : Prop := ∃ n, F5_5 (fun w => ∀ g, rsh [] (upds g []) fun t => Q (.exit 0) t w) (fun y6 w => ∀ g, rsh [(6, (.one .bool))] (upds g [(6, y6)]) fun t => Q .ret t w) n (t 2) (t 7) (t 9) (t 11) (t 12) (t 13) w
theorem F5_5_step (K0 : World → Prop) (Kr : Value → World → Prop) (n : Nat) (t : Tm) (w : World) : (F5_5 K0 Kr (n + 1) (t 2) (t 7) (t 9) (t 11) (t 12) (t 13) w) = rsh [(2, (.one .slc)), (7, (.one .ptr)), (9, (.one .ptr)), (11, (.one (.int .i64))), (12, (.one (.int .i64))), (13, (.one (.int .i64)))] t (fun t => vc Try.prog (orcOf [([0, 1, 0, 1, 1, 1, 1, 1, 1, 1, 1, 0, 0, 1, 0, 0, 1, 0, 1, 1, 1, 1, 1], F5_1O), ([1, 0, 1, 1, 1, 1, 0, 0, 1, 0, 0, 1, 0, 1, 1, 1, 1, 1], F5_2O), ([1, 1, 1, 1, 1, 0, 0, 1, 0, 0, 1, 0, 1, 1, 1, 1, 1], F5_3O), ([1, 0, 0, 1, 0, 1, 1, 1, 1, 1], F5_4O)]) [0, 0, 1, 0, 1, 1, 1, 1, 1] (getAt F5_code [0, 0, 1, 0, 1, 1, 1, 1, 1]) (fun o t w => match o with | .normal => F5_5 K0 Kr n (t 2) (t 7) (t 9) (t 11) (t 12) (t 13) w | .exit i => F5_5C K0 Kr (.exit i) t w | .ret => F5_5C K0 Kr .ret t w) t w) := by kernel_rfl
theorem F5_5_ok : ∀ Q t w, F5_5O Q t w → W Try.prog Try.f5.ntmps (getAt F5_code [0, 1, 0, 1, 1, 1, 1, 1]) Q t w := by
  intro Q t w ⟨n, h⟩
  refine (W_loop (P := Try.prog) (b := getAt F5_code [0, 0, 1, 0, 1, 1, 1, 1, 1]) (Q := F5_5C (fun w => ∀ g, rsh [] (upds g []) fun t => Q (.exit 0) t w) (fun y6 w => ∀ g, rsh [(6, (.one .bool))] (upds g [(6, y6)]) fun t => Q .ret t w)) (G := fun n t w => F5_5 (fun w => ∀ g, rsh [] (upds g []) fun t => Q (.exit 0) t w) (fun y6 w => ∀ g, rsh [(6, (.one .bool))] (upds g [(6, y6)]) fun t => Q .ret t w) n (t 2) (t 7) (t 9) (t 11) (t 12) (t 13) w) (fun _ _ h => h) (fun n t w h => ?_) n t w h).mono ?_
  · rw [F5_5_step] at h
    exact vc_sound mixed (orcCons (π := [0, 1, 0, 1, 1, 1, 1, 1, 1, 1, 1, 0, 0, 1, 0, 0, 1, 0, 1, 1, 1, 1, 1]) F5_1_ok (orcCons (π := [1, 0, 1, 1, 1, 1, 0, 0, 1, 0, 0, 1, 0, 1, 1, 1, 1, 1]) F5_2_ok (orcCons (π := [1, 1, 1, 1, 1, 0, 0, 1, 0, 0, 1, 0, 1, 1, 1, 1, 1]) F5_3_ok (orcCons (π := [1, 0, 0, 1, 0, 1, 1, 1, 1, 1]) F5_4_ok (orcNil F5_code))))) _ _ rfl (okC_at F5_code_ok [0, 0, 1, 0, 1, 1, 1, 1, 1]) _ _ _ (rsh_out h)
  · intro o t w q
    cases o with
    | normal => exact q.elim
    | exit i =>
      unfold F5_5C at q
      simp only at q
      split at q
      · rename_i hi
        rw [nbeq] at hi
        subst hi
        exact out_ok [] q
      · exact q.elim
    | ret => exact out_ok [6] q
def F5_6C (Kr : Value → World → Prop) : Post := fun o t w => match o with | .normal => False | .exit _ => (False) | .ret => Kr (t 6) w
def F5_6 (Kr : Value → World → Prop) (x2 : Value) (x7 : Value) (x9 : Value) (w : World) : Prop :=
  rdC x2 fun l1a l1n l1c => rdP x7 fun p2 => rdP x9 fun p3 => ∃ k14 : Nat, F5_5 (fun w5 => ∀ _g6 : Tm, Calls Try.prog 14 #[] w5 fun e8 w7 => ∃ b9, e8 = .returned (.bool b9) ∧ (Kr (.bool b9) w7)) (fun y6_9 w11 => ∀ _g12 : Tm, rdB y6_9 fun b13 => Kr (.bool b13) w11) k14 (.slice l1a l1n l1c) (.pointer p2) (.pointer p3) (.int .i64 0) (.int .i64 0) (.int .i64 0) w
def F5_6O (Q : Post) (t : Tm) (w : World) : Prop := F5_6 (fun y6 w => ∀ g, rsh [(6, (.one .bool))] (upds g [(6, y6)]) fun t => Q .ret t w) (t 2) (t 7) (t 9) w
theorem F5_6_step (Kr : Value → World → Prop) (t : Tm) (w : World) : (F5_6 Kr (t 2) (t 7) (t 9) w) = rsh [(2, (.one .slc)), (7, (.one .ptr)), (9, (.one .ptr))] t (fun t => vc Try.prog (orcOf [([0, 1, 0, 1, 1, 1, 1, 1, 1, 1, 1, 0, 0, 1, 0, 0, 1, 0, 1, 1, 1, 1, 1], F5_1O), ([1, 0, 1, 1, 1, 1, 0, 0, 1, 0, 0, 1, 0, 1, 1, 1, 1, 1], F5_2O), ([1, 1, 1, 1, 1, 0, 0, 1, 0, 0, 1, 0, 1, 1, 1, 1, 1], F5_3O), ([1, 0, 0, 1, 0, 1, 1, 1, 1, 1], F5_4O), ([0, 1, 0, 1, 1, 1, 1, 1], F5_5O)]) [1, 1, 1, 1] (getAt F5_code [1, 1, 1, 1]) (F5_6C Kr) t w) := by kernel_rfl
theorem F5_6_ok : ∀ Q t w, F5_6O Q t w → W Try.prog Try.f5.ntmps (getAt F5_code [1, 1, 1, 1]) Q t w := by
  intro Q t w h
  unfold F5_6O at h
  rw [F5_6_step] at h
  refine (vc_sound mixed (orcCons (π := [0, 1, 0, 1, 1, 1, 1, 1, 1, 1, 1, 0, 0, 1, 0, 0, 1, 0, 1, 1, 1, 1, 1]) F5_1_ok (orcCons (π := [1, 0, 1, 1, 1, 1, 0, 0, 1, 0, 0, 1, 0, 1, 1, 1, 1, 1]) F5_2_ok (orcCons (π := [1, 1, 1, 1, 1, 0, 0, 1, 0, 0, 1, 0, 1, 1, 1, 1, 1]) F5_3_ok (orcCons (π := [1, 0, 0, 1, 0, 1, 1, 1, 1, 1]) F5_4_ok (orcCons (π := [0, 1, 0, 1, 1, 1, 1, 1]) F5_5_ok (orcNil F5_code)))))) _ _ rfl (okC_at F5_code_ok [1, 1, 1, 1]) _ _ _ (rsh_out h)).mono ?_
  intro o t w q
  cases o with
  | normal => exact q.elim
  | exit i => exact q.elim
  | ret => exact out_ok [6] q
def F5 (x0 : Value) (x1 : Value) (x2 : Value) (w : World) (K : Value → World → Prop) : Prop :=
  rdI .u32 x0 fun n1 => rdI .i64 x1 fun n2 => rdC x2 fun l3a l3n l3c => Calls Try.prog 9 #[(.int .u32 n1), (.int .i64 n2)] w fun e5 w4 => ∃ p6, ∃ n7, e5 = .returned (.tuple #[(.pointer p6), (.int .i64 n7)]) ∧ (Calls Try.prog 17 #[(.int .u32 n1), (.int .i64 n2)] w4 fun e9 w8 => ∃ p10, ∃ n11, e9 = .returned (.tuple #[(.pointer p10), (.int .i64 n11)]) ∧ (br (n7 != 0) (br (n7 == n11) (Calls Try.prog 14 #[] w8 fun e13 w12 => ∃ b14, e13 = .returned (.bool b14) ∧ (K (.bool b14) w12)) (K (.bool false) w8)) (br (n11 != 0) (br (n7 == n11) (Calls Try.prog 14 #[] w8 fun e16 w15 => ∃ b17, e16 = .returned (.bool b17) ∧ (K (.bool b17) w15)) (K (.bool false) w8)) (br (Option.isNone p6) (br (n7 == n11) (Calls Try.prog 14 #[] w8 fun e19 w18 => ∃ b20, e19 = .returned (.bool b20) ∧ (K (.bool b20) w18)) (K (.bool false) w8)) (F5_6 (fun y6_20 w22 => ∀ _g23 : Tm, rdB y6_20 fun b24 => K (.bool b24) w22) (.slice l3a l3n l3c) (.pointer p6) (.pointer p10) w8)))))
theorem F5_step (x0 : Value) (x1 : Value) (x2 : Value) (w : World) (K : Value → World → Prop) : (F5 x0 x1 x2 w K) = rsh [(0, (.one (.int .u32))), (1, (.one (.int .i64))), (2, (.one .slc))] (args0 #[x0, x1, x2]) (fun t => vc Try.prog (orcOf [([0, 1, 0, 1, 1, 1, 1, 1, 1, 1, 1, 0, 0, 1, 0, 0, 1, 0, 1, 1, 1, 1, 1], F5_1O), ([1, 0, 1, 1, 1, 1, 0, 0, 1, 0, 0, 1, 0, 1, 1, 1, 1, 1], F5_2O), ([1, 1, 1, 1, 1, 0, 0, 1, 0, 0, 1, 0, 1, 1, 1, 1, 1], F5_3O), ([1, 0, 0, 1, 0, 1, 1, 1, 1, 1], F5_4O), ([0, 1, 0, 1, 1, 1, 1, 1], F5_5O), ([1, 1, 1, 1], F5_6O)]) [] F5_code (retQ Try.prog Try.f5 K) t w) := by kernel_rfl
theorem F5_ok {x0 x1 x2 : Value} {w : World} {K : Value → World → Prop} (h : F5 x0 x1 x2 w K) : Calls Try.prog 5 #[x0, x1, x2] w fun e w' => ∃ v, e = .returned v ∧ K v w' := by
  rw [F5_step] at h
  exact calls_of (c := F5_code) mixed Try.func5 rfl (nlt rfl) (vc_sound mixed (orcCons (π := [0, 1, 0, 1, 1, 1, 1, 1, 1, 1, 1, 0, 0, 1, 0, 0, 1, 0, 1, 1, 1, 1, 1]) F5_1_ok (orcCons (π := [1, 0, 1, 1, 1, 1, 0, 0, 1, 0, 0, 1, 0, 1, 1, 1, 1, 1]) F5_2_ok (orcCons (π := [1, 1, 1, 1, 1, 0, 0, 1, 0, 0, 1, 0, 1, 1, 1, 1, 1]) F5_3_ok (orcCons (π := [1, 0, 0, 1, 0, 1, 1, 1, 1, 1]) F5_4_ok (orcCons (π := [0, 1, 0, 1, 1, 1, 1, 1]) F5_5_ok (orcCons (π := [1, 1, 1, 1]) F5_6_ok (orcNil F5_code))))))) F5_code [] rfl F5_code_ok _ _ _ (rsh_out h))

/-! ropewalk/ropewalklaw17.OutboxAgain -/
noncomputable def F6_code : Code := Try.f6.body.getD .skip
theorem F6_code_ok : okC Try.prog Try.f6.ntmps F6_code = true := by kernel_rfl
def F6_1C (K2 : Value → Value → World → Prop) (Kr : Value → World → Prop) : Post := fun o t w => match o with | .normal => False | .exit i => (match Nat.beq i 2 with | true => K2 (t 13) (t 20) w | false => False) | .ret => Kr (t 12) w
def F6_1B (R : Value → Value → Value → Value → Value → World → Prop) (K2 : Value → Value → World → Prop) (Kr : Value → World → Prop) (x1 : Value) (x13 : Value) (x20 : Value) (x21 : Value) (x23 : Value) (w : World) : Prop :=
  rdI .i64 x1 fun n1 => rdP x13 fun p2 => rdC x20 fun l3a l3n l3c => rdA x21 fun a4 => rdI .i64 x23 fun n5 => br (decide ((n5 : Int) < n1)) (ldC (a4.add 0) w fun l6a l6n _ => ixS 4 l6a l6n n5 fun a7 => ldR52 a7 w fun s8 => ∃ b9, ∃ w10, Sem.run Try.prog (binF Try.prog .neq 53 (.tmp 136) (.tmp 137) s8.v (.agg #[(.int .i64 0), (.bool false), (.int .i64 (-1)), (.int .i64 0)])) w = .ok (.bool b9) w10 ∧ (br b9 (Kr (.bool false) w10) (R (.int .i64 n1) (.pointer p2) (.slice l3a l3n l3c) (.pointer (some a4)) (.int .i64 (IntKind.wrap .i64 (n5 + 1))) w10))) (K2 (.pointer p2) (.slice l3a l3n l3c) w)
def F6_1 (K2 : Value → Value → World → Prop) (Kr : Value → World → Prop) : Nat → Value → Value → Value → Value → Value → World → Prop
  | 0 => fun _ _ _ _ _ _ => False
  | n + 1 => F6_1B (F6_1 K2 Kr n) K2 Kr
def F6_1O (Q : Post) (t : Tm) (w : World) : Prop := ∃ n, F6_1 (fun y13 y20 w => ∀ g, rsh [(13, (.one .ptr)), (20, (.one .slc))] (upds g [(13, y13), (20, y20)]) fun t => Q (.exit 2) t w) (fun y12 w => ∀ g, rsh [(12, (.one .bool))] (upds g [(12, y12)]) fun t => Q .ret t w) n (t 1) (t 13) (t 20) (t 21) (t 23) w
theorem F6_1_step (K2 : Value → Value → World → Prop) (Kr : Value → World → Prop) (n : Nat) (t : Tm) (w : World) : (F6_1 K2 Kr (n + 1) (t 1) (t 13) (t 20) (t 21) (t 23) w) = rsh [(1, (.one (.int .i64))), (13, (.one .ptr)), (20, (.one .slc)), (21, (.one .adr)), (23, (.one (.int .i64)))] t (fun t => vc Try.prog (orcOf []) [0, 0, 1, 0, 1, 1, 1, 1, 1, 1, 1, 1, 1, 1, 1, 1] (getAt F6_code [0, 0, 1, 0, 1, 1, 1, 1, 1, 1, 1, 1, 1, 1, 1, 1]) (fun o t w => match o with | .normal => F6_1 K2 Kr n (t 1) (t 13) (t 20) (t 21) (t 23) w | .exit i => F6_1C K2 Kr (.exit i) t w | .ret => F6_1C K2 Kr .ret t w) t w) := by kernel_rfl
theorem F6_1_ok : ∀ Q t w, F6_1O Q t w → W Try.prog Try.f6.ntmps (getAt F6_code [0, 1, 0, 1, 1, 1, 1, 1, 1, 1, 1, 1, 1, 1, 1]) Q t w := by
  intro Q t w ⟨n, h⟩
  refine (W_loop (P := Try.prog) (b := getAt F6_code [0, 0, 1, 0, 1, 1, 1, 1, 1, 1, 1, 1, 1, 1, 1, 1]) (Q := F6_1C (fun y13 y20 w => ∀ g, rsh [(13, (.one .ptr)), (20, (.one .slc))] (upds g [(13, y13), (20, y20)]) fun t => Q (.exit 2) t w) (fun y12 w => ∀ g, rsh [(12, (.one .bool))] (upds g [(12, y12)]) fun t => Q .ret t w)) (G := fun n t w => F6_1 (fun y13 y20 w => ∀ g, rsh [(13, (.one .ptr)), (20, (.one .slc))] (upds g [(13, y13), (20, y20)]) fun t => Q (.exit 2) t w) (fun y12 w => ∀ g, rsh [(12, (.one .bool))] (upds g [(12, y12)]) fun t => Q .ret t w) n (t 1) (t 13) (t 20) (t 21) (t 23) w) (fun _ _ h => h) (fun n t w h => ?_) n t w h).mono ?_
  · rw [F6_1_step] at h
    exact vc_sound mixed (orcNil F6_code) _ _ rfl (okC_at F6_code_ok [0, 0, 1, 0, 1, 1, 1, 1, 1, 1, 1, 1, 1, 1, 1, 1]) _ _ _ (rsh_out h)
  · intro o t w q
    cases o with
    | normal => exact q.elim
    | exit i =>
      unfold F6_1C at q
      simp only at q
      split at q
      · rename_i hi
        rw [nbeq] at hi
        subst hi
        exact out_ok [13, 20] q
      · exact q.elim
    | ret => exact out_ok [12] q
def F6_2C (Kr : Value → World → Prop) : Post := fun o t w => match o with | .normal => False | .exit _ => (False) | .ret => Kr (t 12) w
def F6_2 (Kr : Value → World → Prop) (x1 : Value) (x13 : Value) (x20 : Value) (x21 : Value) (w : World) : Prop :=
  rdI .i64 x1 fun n1 => rdP x13 fun p2 => rdC x20 fun l3a l3n l3c => rdA x21 fun a4 => ∃ k23 : Nat, F6_1 (fun y13_4 y20_4 w6 => ∀ _g7 : Tm, rdP y13_4 fun p8 => rdC y20_4 fun l9a l9n l9c => Calls Try.prog 15 #[(.pointer p8)] w6 fun e11 w10 => ∃ l12a l12n l12c, e11 = .returned (.slice l12a l12n l12c) ∧ (Calls Try.prog 22 #[(.slice l9a l9n l9c), (.slice l12a l12n l12c)] w10 fun e14 w13 => ∃ b15, e14 = .returned (.bool b15) ∧ (br b15 (Calls Try.prog 14 #[] w13 fun e17 w16 => ∃ b18, e17 = .returned (.bool b18) ∧ (Kr (.bool b18) w16)) (Kr (.bool false) w13)))) (fun y12_18 w20 => ∀ _g21 : Tm, rdB y12_18 fun b22 => Kr (.bool b22) w20) k23 (.int .i64 n1) (.pointer p2) (.slice l3a l3n l3c) (.pointer (some a4)) (.int .i64 0) w
def F6_2O (Q : Post) (t : Tm) (w : World) : Prop := F6_2 (fun y12 w => ∀ g, rsh [(12, (.one .bool))] (upds g [(12, y12)]) fun t => Q .ret t w) (t 1) (t 13) (t 20) (t 21) w
theorem F6_2_step (Kr : Value → World → Prop) (t : Tm) (w : World) : (F6_2 Kr (t 1) (t 13) (t 20) (t 21) w) = rsh [(1, (.one (.int .i64))), (13, (.one .ptr)), (20, (.one .slc)), (21, (.one .adr))] t (fun t => vc Try.prog (orcOf [([0, 1, 0, 1, 1, 1, 1, 1, 1, 1, 1, 1, 1, 1, 1], F6_1O)]) [1, 1, 1, 1, 1, 1, 1, 1, 1, 1, 1, 1] (getAt F6_code [1, 1, 1, 1, 1, 1, 1, 1, 1, 1, 1, 1]) (F6_2C Kr) t w) := by kernel_rfl
theorem F6_2_ok : ∀ Q t w, F6_2O Q t w → W Try.prog Try.f6.ntmps (getAt F6_code [1, 1, 1, 1, 1, 1, 1, 1, 1, 1, 1, 1]) Q t w := by
  intro Q t w h
  unfold F6_2O at h
  rw [F6_2_step] at h
  refine (vc_sound mixed (orcCons (π := [0, 1, 0, 1, 1, 1, 1, 1, 1, 1, 1, 1, 1, 1, 1]) F6_1_ok (orcNil F6_code)) _ _ rfl (okC_at F6_code_ok [1, 1, 1, 1, 1, 1, 1, 1, 1, 1, 1, 1]) _ _ _ (rsh_out h)).mono ?_
  intro o t w q
  cases o with
  | normal => exact q.elim
  | exit i => exact q.elim
  | ret => exact out_ok [12] q
def F6_3C (Kr : Value → World → Prop) : Post := fun o t w => match o with | .normal => False | .exit _ => (False) | .ret => Kr (t 12) w
def F6_3 (Kr : Value → World → Prop) (x1 : Value) (x5 : Value) (x9 : Value) (x13 : Value) (x20 : Value) (w : World) : Prop :=
  rdI .i64 x1 fun n1 => rdI .i64 x5 fun n2 => rdA x9 fun a3 => rdP x13 fun p4 => rdC x20 fun l5a l5n l5c => ldR30 a3 w fun s6 => Calls Try.prog 13 #[(.pointer p4), s6.v, (.int .i64 n2)] w fun e8 w7 => exR47 fun s9 => ∃ n10, e8 = .returned (.tuple #[s9.v, (.int .i64 n10)]) ∧ (alc (.cells ((R47.mk none 0 0 0 0)).c 48) w7 fun b11 w12 => stcL (Addr.mk b11 0 none) 0 s9.l w12 fun w13 => br (n10 != 0) (Kr (.bool false) w13) (ldI .i64 ((Addr.mk b11 0 none).add 1) w13 fun n14 => br (n14 != 0) (Kr (.bool false) w13) (ldI .i64 ((Addr.mk b11 0 none).add 2) w13 fun n15 => br (n15 != 0) (Kr (.bool false) w13) (ldC ((Addr.mk b11 0 none).add 0) w13 fun _ l16n _ => br ((l16n : Int) != n1) (Kr (.bool false) w13) (F6_2 (fun y12_16 w18 => ∀ _g19 : Tm, rdB y12_16 fun b20 => Kr (.bool b20) w18) (.int .i64 n1) (.pointer p4) (.slice l5a l5n l5c) (.pointer (some (Addr.mk b11 0 none))) w13)))))
def F6_3O (Q : Post) (t : Tm) (w : World) : Prop := F6_3 (fun y12 w => ∀ g, rsh [(12, (.one .bool))] (upds g [(12, y12)]) fun t => Q .ret t w) (t 1) (t 5) (t 9) (t 13) (t 20) w
theorem F6_3_step (Kr : Value → World → Prop) (t : Tm) (w : World) : (F6_3 Kr (t 1) (t 5) (t 9) (t 13) (t 20) w) = rsh [(1, (.one (.int .i64))), (5, (.one (.int .i64))), (9, (.one .adr)), (13, (.one .ptr)), (20, (.one .slc))] t (fun t => vc Try.prog (orcOf [([0, 1, 0, 1, 1, 1, 1, 1, 1, 1, 1, 1, 1, 1, 1], F6_1O), ([1, 1, 1, 1, 1, 1, 1, 1, 1, 1, 1, 1], F6_2O)]) [1, 1, 1, 1, 1, 1, 1, 1, 1, 1] (getAt F6_code [1, 1, 1, 1, 1, 1, 1, 1, 1, 1]) (F6_3C Kr) t w) := by kernel_rfl
theorem F6_3_ok : ∀ Q t w, F6_3O Q t w → W Try.prog Try.f6.ntmps (getAt F6_code [1, 1, 1, 1, 1, 1, 1, 1, 1, 1]) Q t w := by
  intro Q t w h
  unfold F6_3O at h
  rw [F6_3_step] at h
  refine (vc_sound mixed (orcCons (π := [0, 1, 0, 1, 1, 1, 1, 1, 1, 1, 1, 1, 1, 1, 1]) F6_1_ok (orcCons (π := [1, 1, 1, 1, 1, 1, 1, 1, 1, 1, 1, 1]) F6_2_ok (orcNil F6_code))) _ _ rfl (okC_at F6_code_ok [1, 1, 1, 1, 1, 1, 1, 1, 1, 1]) _ _ _ (rsh_out h)).mono ?_
  intro o t w q
  cases o with
  | normal => exact q.elim
  | exit i => exact q.elim
  | ret => exact out_ok [12] q
def F6_4C (Kn : Value → Value → Value → Value → Value → Value → Value → Value → World → Prop) : Post := fun o t w => match o with | .normal => Kn (t 1) (t 2) (t 4) (t 5) (t 9) (t 13) (t 15) (t 17) w | .exit _ => (False) | .ret => False
def F6_4 (Kn : Value → Value → Value → Value → Value → Value → Value → Value → World → Prop) (x1 : Value) (x2 : Value) (x4 : Value) (x5 : Value) (x9 : Value) (x13 : Value) (x15 : Value) (x17 : Value) (w : World) : Prop :=
  rdI .i64 x1 fun n1 => rdC x2 fun l2a l2n l2c => rdI .u32 x4 fun n3 => rdI .i64 x5 fun n4 => rdA x9 fun a5 => rdP x13 fun p6 => rdP x15 fun p7 => rdI .i64 x17 fun n8 => ixS 26 l2a l2n n8 fun a9 => ldR70 a9 w fun s10 => Calls Try.prog 20 #[(.pointer p6), (.pointer p7), s10.v] w fun e12 w11 => exR47 fun s13 => ∃ b14, e12 = .returned (.tuple #[s13.v, (.bool b14)]) ∧ (Kn (.int .i64 n1) (.slice l2a l2n l2c) (.int .u32 n3) (.int .i64 n4) (.pointer (some a5)) (.pointer p6) (.pointer p7) (.int .i64 (IntKind.wrap .i64 (n8 + 1))) w11)
def F6_4O (Q : Post) (t : Tm) (w : World) : Prop := F6_4 (fun y1 y2 y4 y5 y9 y13 y15 y17 w => ∀ g, rsh [(1, (.one (.int .i64))), (2, (.one .slc)), (4, (.one (.int .u32))), (5, (.one (.int .i64))), (9, (.one .adr)), (13, (.one .ptr)), (15, (.one .ptr)), (17, (.one (.int .i64)))] (upds g [(1, y1), (2, y2), (4, y4), (5, y5), (9, y9), (13, y13), (15, y15), (17, y17)]) fun t => Q .normal t w) (t 1) (t 2) (t 4) (t 5) (t 9) (t 13) (t 15) (t 17) w
theorem F6_4_step (Kn : Value → Value → Value → Value → Value → Value → Value → Value → World → Prop) (t : Tm) (w : World) : (F6_4 Kn (t 1) (t 2) (t 4) (t 5) (t 9) (t 13) (t 15) (t 17) w) = rsh [(1, (.one (.int .i64))), (2, (.one .slc)), (4, (.one (.int .u32))), (5, (.one (.int .i64))), (9, (.one .adr)), (13, (.one .ptr)), (15, (.one .ptr)), (17, (.one (.int .i64)))] t (fun t => vc Try.prog (orcOf []) [1, 0, 0, 1, 0, 1, 1, 1, 1] (getAt F6_code [1, 0, 0, 1, 0, 1, 1, 1, 1]) (F6_4C Kn) t w) := by kernel_rfl
theorem F6_4_ok : ∀ Q t w, F6_4O Q t w → W Try.prog Try.f6.ntmps (getAt F6_code [1, 0, 0, 1, 0, 1, 1, 1, 1]) Q t w := by
  intro Q t w h
  unfold F6_4O at h
  rw [F6_4_step] at h
  refine (vc_sound mixed (orcNil F6_code) _ _ rfl (okC_at F6_code_ok [1, 0, 0, 1, 0, 1, 1, 1, 1]) _ _ _ (rsh_out h)).mono ?_
  intro o t w q
  cases o with
  | normal => exact out_ok [1, 2, 4, 5, 9, 13, 15, 17] q
  | exit i => exact q.elim
  | ret => exact q.elim
def F6_5C (K0 : Value → Value → Value → Value → Value → World → Prop) : Post := fun o t w => match o with | .normal => False | .exit i => (match Nat.beq i 0 with | true => K0 (t 1) (t 4) (t 5) (t 9) (t 13) w | false => False) | .ret => False
def F6_5B (R : Value → Value → Value → Value → Value → Value → Value → Value → World → Prop) (K0 : Value → Value → Value → Value → Value → World → Prop) (x1 : Value) (x2 : Value) (x4 : Value) (x5 : Value) (x9 : Value) (x13 : Value) (x15 : Value) (x17 : Value) (w : World) : Prop :=
  rdI .i64 x1 fun n1 => rdC x2 fun l2a l2n l2c => rdI .u32 x4 fun n3 => rdI .i64 x5 fun n4 => rdA x9 fun a5 => rdP x13 fun p6 => rdP x15 fun p7 => rdI .i64 x17 fun n8 => br (decide ((n8 : Int) < (l2n : Int))) (br (decide ((n8 : Int) < 120)) (F6_4 (fun y1_8 y2_8 y4_8 y5_8 y9_8 y13_8 y15_8 y17_8 w10 => ∀ _g11 : Tm, rdI .i64 y1_8 fun n12 => rdC y2_8 fun l13a l13n l13c => rdI .u32 y4_8 fun n14 => rdI .i64 y5_8 fun n15 => rdA y9_8 fun a16 => rdP y13_8 fun p17 => rdP y15_8 fun p18 => rdI .i64 y17_8 fun n19 => R (.int .i64 n12) (.slice l13a l13n l13c) (.int .u32 n14) (.int .i64 n15) (.pointer (some a16)) (.pointer p17) (.pointer p18) (.int .i64 n19) w10) (.int .i64 n1) (.slice l2a l2n l2c) (.int .u32 n3) (.int .i64 n4) (.pointer (some a5)) (.pointer p6) (.pointer p7) (.int .i64 n8) w) (K0 (.int .i64 n1) (.int .u32 n3) (.int .i64 n4) (.pointer (some a5)) (.pointer p6) w)) (K0 (.int .i64 n1) (.int .u32 n3) (.int .i64 n4) (.pointer (some a5)) (.pointer p6) w)
def F6_5 (K0 : Value → Value → Value → Value → Value → World → Prop) : Nat → Value → Value → Value → Value → Value → Value → Value → Value → World → Prop
  | 0 => fun _ _ _ _ _ _ _ _ _ => False
  | n + 1 => F6_5B (F6_5 K0 n) K0
def F6_5O (Q : Post) (t : Tm) (w : World) : Prop := ∃ n, F6_5 (fun y1 y4 y5 y9 y13 w => ∀ g, rsh [(1, (.one (.int .i64))), (4, (.one (.int .u32))), (5, (.one (.int .i64))), (9, (.one .adr)), (13, (.one .ptr))] (upds g [(1, y1), (4, y4), (5, y5), (9, y9), (13, y13)]) fun t => Q (.exit 0) t w) n (t 1) (t 2) (t 4) (t 5) (t 9) (t 13) (t 15) (t 17) w
theorem F6_5_step (K0 : Value → Value → Value → Value → Value → World → Prop) (n : Nat) (t : Tm) (w : World) : (F6_5 K0 (n + 1) (t 1) (t 2) (t 4) (t 5) (t 9) (t 13) (t 15) (t 17) w) = rsh [(1, (.one (.int .i64))), (2, (.one .slc)), (4, (.one (.int .u32))), (5, (.one (.int .i64))), (9, (.one .adr)), (13, (.one .ptr)), (15, (.one .ptr)), (17, (.one (.int .i64)))] t (fun t => vc Try.prog (orcOf [([1, 0, 0, 1, 0, 1, 1, 1, 1], F6_4O)]) [0, 0, 1, 0, 1, 1, 1, 1] (getAt F6_code [0, 0, 1, 0, 1, 1, 1, 1]) (fun o t w => match o with | .normal => F6_5 K0 n (t 1) (t 2) (t 4) (t 5) (t 9) (t 13) (t 15) (t 17) w | .exit i => F6_5C K0 (.exit i) t w | .ret => F6_5C K0 .ret t w) t w) := by kernel_rfl
theorem F6_5_ok : ∀ Q t w, F6_5O Q t w → W Try.prog Try.f6.ntmps (getAt F6_code [0, 1, 0, 1, 1, 1, 1]) Q t w := by
  intro Q t w ⟨n, h⟩
  refine (W_loop (P := Try.prog) (b := getAt F6_code [0, 0, 1, 0, 1, 1, 1, 1]) (Q := F6_5C (fun y1 y4 y5 y9 y13 w => ∀ g, rsh [(1, (.one (.int .i64))), (4, (.one (.int .u32))), (5, (.one (.int .i64))), (9, (.one .adr)), (13, (.one .ptr))] (upds g [(1, y1), (4, y4), (5, y5), (9, y9), (13, y13)]) fun t => Q (.exit 0) t w)) (G := fun n t w => F6_5 (fun y1 y4 y5 y9 y13 w => ∀ g, rsh [(1, (.one (.int .i64))), (4, (.one (.int .u32))), (5, (.one (.int .i64))), (9, (.one .adr)), (13, (.one .ptr))] (upds g [(1, y1), (4, y4), (5, y5), (9, y9), (13, y13)]) fun t => Q (.exit 0) t w) n (t 1) (t 2) (t 4) (t 5) (t 9) (t 13) (t 15) (t 17) w) (fun _ _ h => h) (fun n t w h => ?_) n t w h).mono ?_
  · rw [F6_5_step] at h
    exact vc_sound mixed (orcCons (π := [1, 0, 0, 1, 0, 1, 1, 1, 1]) F6_4_ok (orcNil F6_code)) _ _ rfl (okC_at F6_code_ok [0, 0, 1, 0, 1, 1, 1, 1]) _ _ _ (rsh_out h)
  · intro o t w q
    cases o with
    | normal => exact q.elim
    | exit i =>
      unfold F6_5C at q
      simp only at q
      split at q
      · rename_i hi
        rw [nbeq] at hi
        subst hi
        exact out_ok [1, 4, 5, 9, 13] q
      · exact q.elim
    | ret => exact q.elim
def F6_6C (Kr : Value → World → Prop) : Post := fun o t w => match o with | .normal => False | .exit _ => (False) | .ret => Kr (t 12) w
def F6_6 (Kr : Value → World → Prop) (x1 : Value) (x2 : Value) (x4 : Value) (x5 : Value) (x9 : Value) (x13 : Value) (x15 : Value) (w : World) : Prop :=
  rdI .i64 x1 fun n1 => rdC x2 fun l2a l2n l2c => rdI .u32 x4 fun n3 => rdI .i64 x5 fun n4 => rdA x9 fun a5 => rdP x13 fun p6 => rdP x15 fun p7 => ∃ k53 : Nat, F6_5 (fun y1_7 y4_7 y5_7 y9_7 y13_7 w9 => ∀ _g10 : Tm, rdI .i64 y1_7 fun n11 => rdI .u32 y4_7 fun n12 => rdI .i64 y5_7 fun n13 => rdA y9_7 fun a14 => rdP y13_7 fun p15 => Calls Try.prog 12 #[(.pointer p15)] w9 fun e17 w16 => ∃ n18, e17 = .returned (.int .u32 n18) ∧ (Calls Try.prog 21 #[(.int .u32 n18), (.int .u32 n12)] w16 fun e20 w19 => ∃ n21, e20 = .returned (.int .u32 n21) ∧ (stc (a14.add 2) (.int .u32 n21) w19 fun w22 => ldR30 a14 w22 fun s23 => Calls Try.prog 13 #[(.pointer p15), s23.v, (.int .i64 n13)] w22 fun e25 w24 => exR47 fun s26 => ∃ n27, e25 = .returned (.tuple #[s26.v, (.int .i64 n27)]) ∧ (alc (.cells ((R47.mk none 0 0 0 0)).c 48) w24 fun b28 w29 => stcL (Addr.mk b28 0 none) 0 s26.l w29 fun w30 => br (n27 != 0) (Calls Try.prog 14 #[] w30 fun e32 w31 => ∃ b33, e32 = .returned (.bool b33) ∧ (Kr (.bool b33) w31)) (Calls Try.prog 15 #[(.pointer p15)] w30 fun e35 w34 => ∃ l36a l36n l36c, e35 = .returned (.slice l36a l36n l36c) ∧ (br (decide ((n12 : Int) > 0)) (ldC (a14.add 10) w34 fun _ l37n _ => br (decide (((l37n : Int) : Int) > 0)) (Calls Try.prog 14 #[] w34 fun e39 w38 => ∃ b40, e39 = .returned (.bool b40) ∧ (Kr (.bool b40) w38)) (ldC (a14.add 11) w34 fun _ l41n _ => br (decide (((l41n : Int) : Int) > 0)) (Calls Try.prog 14 #[] w34 fun e43 w42 => ∃ b44, e43 = .returned (.bool b44) ∧ (Kr (.bool b44) w42)) (F6_3 (fun y12_44 w46 => ∀ _g47 : Tm, rdB y12_44 fun b48 => Kr (.bool b48) w46) (.int .i64 n11) (.int .i64 n13) (.pointer (some a14)) (.pointer p15) (.slice l36a l36n l36c) w34))) (F6_3 (fun y12_48 w50 => ∀ _g51 : Tm, rdB y12_48 fun b52 => Kr (.bool b52) w50) (.int .i64 n11) (.int .i64 n13) (.pointer (some a14)) (.pointer p15) (.slice l36a l36n l36c) w34))))))) k53 (.int .i64 n1) (.slice l2a l2n l2c) (.int .u32 n3) (.int .i64 n4) (.pointer (some a5)) (.pointer p6) (.pointer p7) (.int .i64 0) w
def F6_6O (Q : Post) (t : Tm) (w : World) : Prop := F6_6 (fun y12 w => ∀ g, rsh [(12, (.one .bool))] (upds g [(12, y12)]) fun t => Q .ret t w) (t 1) (t 2) (t 4) (t 5) (t 9) (t 13) (t 15) w
theorem F6_6_step (Kr : Value → World → Prop) (t : Tm) (w : World) : (F6_6 Kr (t 1) (t 2) (t 4) (t 5) (t 9) (t 13) (t 15) w) = rsh [(1, (.one (.int .i64))), (2, (.one .slc)), (4, (.one (.int .u32))), (5, (.one (.int .i64))), (9, (.one .adr)), (13, (.one .ptr)), (15, (.one .ptr))] t (fun t => vc Try.prog (orcOf [([0, 1, 0, 1, 1, 1, 1, 1, 1, 1, 1, 1, 1, 1, 1], F6_1O), ([1, 1, 1, 1, 1, 1, 1, 1, 1, 1, 1, 1], F6_2O), ([1, 1, 1, 1, 1, 1, 1, 1, 1, 1], F6_3O), ([1, 0, 0, 1, 0, 1, 1, 1, 1], F6_4O), ([0, 1, 0, 1, 1, 1, 1], F6_5O)]) [1, 1, 1, 1] (getAt F6_code [1, 1, 1, 1]) (F6_6C Kr) t w) := by kernel_rfl
theorem F6_6_ok : ∀ Q t w, F6_6O Q t w → W Try.prog Try.f6.ntmps (getAt F6_code [1, 1, 1, 1]) Q t w := by
  intro Q t w h
  unfold F6_6O at h
  rw [F6_6_step] at h
  refine (vc_sound mixed (orcCons (π := [0, 1, 0, 1, 1, 1, 1, 1, 1, 1, 1, 1, 1, 1, 1]) F6_1_ok (orcCons (π := [1, 1, 1, 1, 1, 1, 1, 1, 1, 1, 1, 1]) F6_2_ok (orcCons (π := [1, 1, 1, 1, 1, 1, 1, 1, 1, 1]) F6_3_ok (orcCons (π := [1, 0, 0, 1, 0, 1, 1, 1, 1]) F6_4_ok (orcCons (π := [0, 1, 0, 1, 1, 1, 1]) F6_5_ok (orcNil F6_code)))))) _ _ rfl (okC_at F6_code_ok [1, 1, 1, 1]) _ _ _ (rsh_out h)).mono ?_
  intro o t w q
  cases o with
  | normal => exact q.elim
  | exit i => exact q.elim
  | ret => exact out_ok [12] q
def F6 (x0 : Value) (x1 : Value) (x2 : Value) (x3 : Value) (x4 : Value) (x5 : Value) (w : World) (K : Value → World → Prop) : Prop :=
  rdI .u32 x0 fun n1 => rdI .i64 x1 fun n2 => rdC x2 fun l3a l3n l3c => exR30 fun s4 => x3 = s4.v ∧ (rdI .u32 x4 fun n5 => rdI .i64 x5 fun n6 => alc (.cells s4.c 31) w fun b7 w8 => Calls Try.prog 9 #[(.int .u32 n1), (.int .i64 n2)] w8 fun e10 w9 => ∃ p11, ∃ n12, e10 = .returned (.tuple #[(.pointer p11), (.int .i64 n12)]) ∧ (Calls Try.prog 17 #[(.int .u32 n1), (.int .i64 n2)] w9 fun e14 w13 => ∃ p15, ∃ n16, e14 = .returned (.tuple #[(.pointer p15), (.int .i64 n16)]) ∧ (br (n12 != 0) (br (n12 == n16) (Calls Try.prog 14 #[] w13 fun e18 w17 => ∃ b19, e18 = .returned (.bool b19) ∧ (K (.bool b19) w17)) (K (.bool false) w13)) (br (n16 != 0) (br (n12 == n16) (Calls Try.prog 14 #[] w13 fun e21 w20 => ∃ b22, e21 = .returned (.bool b22) ∧ (K (.bool b22) w20)) (K (.bool false) w13)) (br (Option.isNone p11) (br (n12 == n16) (Calls Try.prog 14 #[] w13 fun e24 w23 => ∃ b25, e24 = .returned (.bool b25) ∧ (K (.bool b25) w23)) (K (.bool false) w13)) (F6_6 (fun y12_25 w27 => ∀ _g28 : Tm, rdB y12_25 fun b29 => K (.bool b29) w27) (.int .i64 n2) (.slice l3a l3n l3c) (.int .u32 n5) (.int .i64 n6) (.pointer (some (Addr.mk b7 0 none))) (.pointer p11) (.pointer p15) w13))))))
theorem F6_step (x0 : Value) (x1 : Value) (x2 : Value) (x3 : Value) (x4 : Value) (x5 : Value) (w : World) (K : Value → World → Prop) : (F6 x0 x1 x2 x3 x4 x5 w K) = rsh [(0, (.one (.int .u32))), (1, (.one (.int .i64))), (2, (.one .slc)), (3, (.agg [(.int .u8), (.int .u8), (.int .u32), (.int .u16), (.int .u16), (.int .u32), (.int .u32), (.int .u32), (.int .u16), (.int .u16), .slc, .slc, .slc, .slc, .slc])), (4, (.one (.int .u32))), (5, (.one (.int .i64)))] (args0 #[x0, x1, x2, x3, x4, x5]) (fun t => vc Try.prog (orcOf [([0, 1, 0, 1, 1, 1, 1, 1, 1, 1, 1, 1, 1, 1, 1], F6_1O), ([1, 1, 1, 1, 1, 1, 1, 1, 1, 1, 1, 1], F6_2O), ([1, 1, 1, 1, 1, 1, 1, 1, 1, 1], F6_3O), ([1, 0, 0, 1, 0, 1, 1, 1, 1], F6_4O), ([0, 1, 0, 1, 1, 1, 1], F6_5O), ([1, 1, 1, 1], F6_6O)]) [] F6_code (retQ Try.prog Try.f6 K) t w) := by kernel_rfl
theorem F6_ok {x0 x1 x2 x3 x4 x5 : Value} {w : World} {K : Value → World → Prop} (h : F6 x0 x1 x2 x3 x4 x5 w K) : Calls Try.prog 6 #[x0, x1, x2, x3, x4, x5] w fun e w' => ∃ v, e = .returned v ∧ K v w' := by
  rw [F6_step] at h
  exact calls_of (c := F6_code) mixed Try.func6 rfl (nlt rfl) (vc_sound mixed (orcCons (π := [0, 1, 0, 1, 1, 1, 1, 1, 1, 1, 1, 1, 1, 1, 1]) F6_1_ok (orcCons (π := [1, 1, 1, 1, 1, 1, 1, 1, 1, 1, 1, 1]) F6_2_ok (orcCons (π := [1, 1, 1, 1, 1, 1, 1, 1, 1, 1]) F6_3_ok (orcCons (π := [1, 0, 0, 1, 0, 1, 1, 1, 1]) F6_4_ok (orcCons (π := [0, 1, 0, 1, 1, 1, 1]) F6_5_ok (orcCons (π := [1, 1, 1, 1]) F6_6_ok (orcNil F6_code))))))) F6_code [] rfl F6_code_ok _ _ _ (rsh_out h))

/-! ropewalk/ropewalklaw17.OutboxRuns -/
noncomputable def F7_code : Code := Try.f7.body.getD .skip
theorem F7_code_ok : okC Try.prog Try.f7.ntmps F7_code = true := by kernel_rfl
def F7_1C (Kn : Value → Value → Value → Value → World → Prop) (Kr : Value → World → Prop) : Post := fun o t w => match o with | .normal => Kn (t 2) (t 7) (t 9) (t 11) w | .exit _ => (False) | .ret => Kr (t 6) w
def F7_1 (Kn : Value → Value → Value → Value → World → Prop) (Kr : Value → World → Prop) (x2 : Value) (x7 : Value) (x9 : Value) (x11 : Value) (w : World) : Prop :=
  rdC x2 fun l1a l1n l1c => rdP x7 fun p2 => rdP x9 fun p3 => rdI .i64 x11 fun n4 => ixS 26 l1a l1n n4 fun a5 => ldR70 a5 w fun s6 => Calls Try.prog 20 #[(.pointer p2), (.pointer p3), s6.v] w fun e8 w7 => exR47 fun s9 => ∃ b10, e8 = .returned (.tuple #[s9.v, (.bool b10)]) ∧ (alc (.cells ((R47.mk none 0 0 0 0)).c 48) w7 fun b11 w12 => stcL (Addr.mk b11 0 none) 0 s9.l w12 fun w13 => br (!b10) (Kr (.bool false) w13) (Calls Try.prog 23 #[(.pointer p2), (.pointer p3)] w13 fun e15 w14 => ∃ b16, e15 = .returned (.bool b16) ∧ (br (!b16) (Kr (.bool false) w14) (Kn (.slice l1a l1n l1c) (.pointer p2) (.pointer p3) (.int .i64 (IntKind.wrap .i64 (n4 + 1))) w14))))
def F7_1O (Q : Post) (t : Tm) (w : World) : Prop := F7_1 (fun y2 y7 y9 y11 w => ∀ g, rsh [(2, (.one .slc)), (7, (.one .ptr)), (9, (.one .ptr)), (11, (.one (.int .i64)))] (upds g [(2, y2), (7, y7), (9, y9), (11, y11)]) fun t => Q .normal t w) (fun y6 w => ∀ g, rsh [(6, (.one .bool))] (upds g [(6, y6)]) fun t => Q .ret t w) (t 2) (t 7) (t 9) (t 11) w
theorem F7_1_step (Kn : Value → Value → Value → Value → World → Prop) (Kr : Value → World → Prop) (t : Tm) (w : World) : (F7_1 Kn Kr (t 2) (t 7) (t 9) (t 11) w) = rsh [(2, (.one .slc)), (7, (.one .ptr)), (9, (.one .ptr)), (11, (.one (.int .i64)))] t (fun t => vc Try.prog (orcOf []) [1, 0, 0, 1, 0, 1, 1, 1, 1, 1] (getAt F7_code [1, 0, 0, 1, 0, 1, 1, 1, 1, 1]) (F7_1C Kn Kr) t w) := by kernel_rfl
theorem F7_1_ok : ∀ Q t w, F7_1O Q t w → W Try.prog Try.f7.ntmps (getAt F7_code [1, 0, 0, 1, 0, 1, 1, 1, 1, 1]) Q t w := by
  intro Q t w h
  unfold F7_1O at h
  rw [F7_1_step] at h
  refine (vc_sound mixed (orcNil F7_code) _ _ rfl (okC_at F7_code_ok [1, 0, 0, 1, 0, 1, 1, 1, 1, 1]) _ _ _ (rsh_out h)).mono ?_
  intro o t w q
  cases o with
  | normal => exact out_ok [2, 7, 9, 11] q
  | exit i => exact q.elim
  | ret => exact out_ok [6] q
def F7_2C (K0 : Value → Value → World → Prop) (Kr : Value → World → Prop) : Post := fun o t w => match o with | .normal => False | .exit i => (match Nat.beq i 0 with | true => K0 (t 7) (t 9) w | false => False) | .ret => Kr (t 6) w
def F7_2B (R : Value → Value → Value → Value → World → Prop) (K0 : Value → Value → World → Prop) (Kr : Value → World → Prop) (x2 : Value) (x7 : Value) (x9 : Value) (x11 : Value) (w : World) : Prop :=
  rdC x2 fun l1a l1n l1c => rdP x7 fun p2 => rdP x9 fun p3 => rdI .i64 x11 fun n4 => br (decide ((n4 : Int) < (l1n : Int))) (br (decide ((n4 : Int) < 120)) (F7_1 (fun y2_4 y7_4 y9_4 y11_4 w6 => ∀ _g7 : Tm, rdC y2_4 fun l8a l8n l8c => rdP y7_4 fun p9 => rdP y9_4 fun p10 => rdI .i64 y11_4 fun n11 => R (.slice l8a l8n l8c) (.pointer p9) (.pointer p10) (.int .i64 n11) w6) (fun y6_11 w13 => ∀ _g14 : Tm, rdB y6_11 fun b15 => Kr (.bool b15) w13) (.slice l1a l1n l1c) (.pointer p2) (.pointer p3) (.int .i64 n4) w) (K0 (.pointer p2) (.pointer p3) w)) (K0 (.pointer p2) (.pointer p3) w)
def F7_2 (K0 : Value → Value → World → Prop) (Kr : Value → World → Prop) : Nat → Value → Value → Value → Value → World → Prop
  | 0 => fun _ _ _ _ _ => False
  | n + 1 => F7_2B (F7_2 K0 Kr n) K0 Kr
def F7_2O (Q : Post) (t : Tm) (w : World) : Prop := ∃ n, F7_2 (fun y7 y9 w => ∀ g, rsh [(7, (.one .ptr)), (9, (.one .ptr))] (upds g [(7, y7), (9, y9)]) fun t => Q (.exit 0) t w) (fun y6 w => ∀ g, rsh [(6, (.one .bool))] (upds g [(6, y6)]) fun t => Q .ret t w) n (t 2) (t 7) (t 9) (t 11) w
theorem F7_2_step (K0 : Value → Value → World → Prop) (Kr : Value → World → Prop) (n : Nat) (t : Tm) (w : World) : (F7_2 K0 Kr (n + 1) (t 2) (t 7) (t 9) (t 11) w) = rsh [(2, (.one .slc)), (7, (.one .ptr)), (9, (.one .ptr)), (11, (.one (.int .i64)))] t (fun t => vc Try.prog (orcOf [([1, 0, 0, 1, 0, 1, 1, 1, 1, 1], F7_1O)]) [0, 0, 1, 0, 1, 1, 1, 1, 1] (getAt F7_code [0, 0, 1, 0, 1, 1, 1, 1, 1]) (fun o t w => match o with | .normal => F7_2 K0 Kr n (t 2) (t 7) (t 9) (t 11) w | .exit i => F7_2C K0 Kr (.exit i) t w | .ret => F7_2C K0 Kr .ret t w) t w) := by kernel_rfl
theorem F7_2_ok : ∀ Q t w, F7_2O Q t w → W Try.prog Try.f7.ntmps (getAt F7_code [0, 1, 0, 1, 1, 1, 1, 1]) Q t w := by
  intro Q t w ⟨n, h⟩
  refine (W_loop (P := Try.prog) (b := getAt F7_code [0, 0, 1, 0, 1, 1, 1, 1, 1]) (Q := F7_2C (fun y7 y9 w => ∀ g, rsh [(7, (.one .ptr)), (9, (.one .ptr))] (upds g [(7, y7), (9, y9)]) fun t => Q (.exit 0) t w) (fun y6 w => ∀ g, rsh [(6, (.one .bool))] (upds g [(6, y6)]) fun t => Q .ret t w)) (G := fun n t w => F7_2 (fun y7 y9 w => ∀ g, rsh [(7, (.one .ptr)), (9, (.one .ptr))] (upds g [(7, y7), (9, y9)]) fun t => Q (.exit 0) t w) (fun y6 w => ∀ g, rsh [(6, (.one .bool))] (upds g [(6, y6)]) fun t => Q .ret t w) n (t 2) (t 7) (t 9) (t 11) w) (fun _ _ h => h) (fun n t w h => ?_) n t w h).mono ?_
  · rw [F7_2_step] at h
    exact vc_sound mixed (orcCons (π := [1, 0, 0, 1, 0, 1, 1, 1, 1, 1]) F7_1_ok (orcNil F7_code)) _ _ rfl (okC_at F7_code_ok [0, 0, 1, 0, 1, 1, 1, 1, 1]) _ _ _ (rsh_out h)
  · intro o t w q
    cases o with
    | normal => exact q.elim
    | exit i =>
      unfold F7_2C at q
      simp only at q
      split at q
      · rename_i hi
        rw [nbeq] at hi
        subst hi
        exact out_ok [7, 9] q
      · exact q.elim
    | ret => exact out_ok [6] q
def F7_3C (Kr : Value → World → Prop) : Post := fun o t w => match o with | .normal => False | .exit _ => (False) | .ret => Kr (t 6) w
def F7_3 (Kr : Value → World → Prop) (x2 : Value) (x7 : Value) (x9 : Value) (w : World) : Prop :=
  rdC x2 fun l1a l1n l1c => rdP x7 fun p2 => rdP x9 fun p3 => br (Option.isNone p3) (Calls Try.prog 14 #[] w fun e5 w4 => ∃ b6, e5 = .returned (.bool b6) ∧ (Kr (.bool b6) w4)) (∃ k22 : Nat, F7_2 (fun y7_6 y9_6 w8 => ∀ _g9 : Tm, rdP y7_6 fun p10 => rdP y9_6 fun p11 => Calls Try.prog 23 #[(.pointer p10), (.pointer p11)] w8 fun e13 w12 => ∃ b14, e13 = .returned (.bool b14) ∧ (br b14 (Calls Try.prog 14 #[] w12 fun e16 w15 => ∃ b17, e16 = .returned (.bool b17) ∧ (Kr (.bool b17) w15)) (Kr (.bool false) w12))) (fun y6_17 w19 => ∀ _g20 : Tm, rdB y6_17 fun b21 => Kr (.bool b21) w19) k22 (.slice l1a l1n l1c) (.pointer p2) (.pointer p3) (.int .i64 0) w)
def F7_3O (Q : Post) (t : Tm) (w : World) : Prop := F7_3 (fun y6 w => ∀ g, rsh [(6, (.one .bool))] (upds g [(6, y6)]) fun t => Q .ret t w) (t 2) (t 7) (t 9) w
theorem F7_3_step (Kr : Value → World → Prop) (t : Tm) (w : World) : (F7_3 Kr (t 2) (t 7) (t 9) w) = rsh [(2, (.one .slc)), (7, (.one .ptr)), (9, (.one .ptr))] t (fun t => vc Try.prog (orcOf [([1, 0, 0, 1, 0, 1, 1, 1, 1, 1], F7_1O), ([0, 1, 0, 1, 1, 1, 1, 1], F7_2O)]) [1, 1, 1, 1] (getAt F7_code [1, 1, 1, 1]) (F7_3C Kr) t w) := by kernel_rfl
theorem F7_3_ok : ∀ Q t w, F7_3O Q t w → W Try.prog Try.f7.ntmps (getAt F7_code [1, 1, 1, 1]) Q t w := by
  intro Q t w h
  unfold F7_3O at h
  rw [F7_3_step] at h
  refine (vc_sound mixed (orcCons (π := [1, 0, 0, 1, 0, 1, 1, 1, 1, 1]) F7_1_ok (orcCons (π := [0, 1, 0, 1, 1, 1, 1, 1]) F7_2_ok (orcNil F7_code))) _ _ rfl (okC_at F7_code_ok [1, 1, 1, 1]) _ _ _ (rsh_out h)).mono ?_
  intro o t w q
  cases o with
  | normal => exact q.elim
  | exit i => exact q.elim
  | ret => exact out_ok [6] q
def F7 (x0 : Value) (x1 : Value) (x2 : Value) (w : World) (K : Value → World → Prop) : Prop :=
  rdI .u32 x0 fun n1 => rdI .i64 x1 fun n2 => rdC x2 fun l3a l3n l3c => Calls Try.prog 9 #[(.int .u32 n1), (.int .i64 n2)] w fun e5 w4 => ∃ p6, ∃ n7, e5 = .returned (.tuple #[(.pointer p6), (.int .i64 n7)]) ∧ (Calls Try.prog 17 #[(.int .u32 n1), (.int .i64 n2)] w4 fun e9 w8 => ∃ p10, ∃ n11, e9 = .returned (.tuple #[(.pointer p10), (.int .i64 n11)]) ∧ (br (n7 != n11) (K (.bool false) w8) (br (!((Option.isNone p6) == (Option.isNone p10))) (K (.bool false) w8) (F7_3 (fun y6_11 w13 => ∀ _g14 : Tm, rdB y6_11 fun b15 => K (.bool b15) w13) (.slice l3a l3n l3c) (.pointer p6) (.pointer p10) w8))))
theorem F7_step (x0 : Value) (x1 : Value) (x2 : Value) (w : World) (K : Value → World → Prop) : (F7 x0 x1 x2 w K) = rsh [(0, (.one (.int .u32))), (1, (.one (.int .i64))), (2, (.one .slc))] (args0 #[x0, x1, x2]) (fun t => vc Try.prog (orcOf [([1, 0, 0, 1, 0, 1, 1, 1, 1, 1], F7_1O), ([0, 1, 0, 1, 1, 1, 1, 1], F7_2O), ([1, 1, 1, 1], F7_3O)]) [] F7_code (retQ Try.prog Try.f7 K) t w) := by kernel_rfl
theorem F7_ok {x0 x1 x2 : Value} {w : World} {K : Value → World → Prop} (h : F7 x0 x1 x2 w K) : Calls Try.prog 7 #[x0, x1, x2] w fun e w' => ∃ v, e = .returned v ∧ K v w' := by
  rw [F7_step] at h
  exact calls_of (c := F7_code) mixed Try.func7 rfl (nlt rfl) (vc_sound mixed (orcCons (π := [1, 0, 0, 1, 0, 1, 1, 1, 1, 1]) F7_1_ok (orcCons (π := [0, 1, 0, 1, 1, 1, 1, 1]) F7_2_ok (orcCons (π := [1, 1, 1, 1]) F7_3_ok (orcNil F7_code)))) F7_code [] rfl F7_code_ok _ _ _ (rsh_out h))

/-! ropewalk/ropewalklaw17.OutboxNobody -/
noncomputable def F8_code : Code := Try.f8.body.getD .skip
theorem F8_code_ok : okC Try.prog Try.f8.ntmps F8_code = true := by kernel_rfl
def F8_1C (K0 : World → Prop) (Kr : Value → World → Prop) : Post := fun o t w => match o with | .normal => False | .exit i => (match Nat.beq i 0 with | true => K0  w | false => False) | .ret => Kr (t 4) w
def F8_1B (R : Value → Value → Value → Value → Value → World → Prop) (K0 : World → Prop) (Kr : Value → World → Prop) (x0 : Value) (x1 : Value) (x25 : Value) (x26 : Value) (x27 : Value) (w : World) : Prop :=
  rdI .i64 x0 fun n1 => rdI .i64 x1 fun n2 => rdC x25 fun l3a l3n l3c => rdI .i64 x26 fun n4 => rdI .i64 x27 fun n5 => br (decide ((n5 : Int) < n4)) (ixS 1 l3a l3n n5 fun a6 => ldP a6 w fun p7 => Calls Try.prog 11 #[(.string ⟨#[97]⟩)] w fun e9 w8 => exR40 fun s10 => e9 = .returned s10.v ∧ (Calls Try.prog 10 #[(.pointer p7), (.int .i64 n1), s10.v, (.int .i64 n2)] w8 fun e12 w11 => ∃ n13, ∃ n14, e12 = .returned (.tuple #[(.int .u32 n13), (.int .i64 n14)]) ∧ (Calls Try.prog 24 #[(.pointer p7), (.int .i64 n1), (.int .i64 n2)] w11 fun e16 w15 => exR57 fun s17 => ∃ b18, ∃ n19, e16 = .returned (.tuple #[s17.v, (.bool b18), (.int .i64 n19)]) ∧ (alc (.cells ((R57.mk 0 0 0 0 0 false 0 0 0 0 false none 0 0 false false)).c 58) w15 fun b20 w21 => stcL (Addr.mk b20 0 none) 0 s17.l w21 fun w22 => Calls Try.prog 13 #[(.pointer p7), (.agg #[(.int .u8 3), (.int .u8 0), (.int .u32 0), (.int .u16 0), (.int .u16 0), (.int .u32 0), (.int .u32 0), (.int .u32 0), (.int .u16 0), (.int .u16 0), (.slice none 0 0), (.slice none 0 0), (.slice none 0 0), (.slice none 0 0), (.slice none 0 0)]), (.int .i64 n2)] w22 fun e24 w23 => exR47 fun s25 => ∃ n26, e24 = .returned (.tuple #[s25.v, (.int .i64 n26)]) ∧ (alc (.cells ((R47.mk none 0 0 0 0)).c 48) w23 fun b27 w28 => stcL (Addr.mk b27 0 none) 0 s25.l w28 fun w29 => Calls Try.prog 25 #[(.pointer p7), (.int .i64 n1)] w29 fun e31 w30 => ∃ n32, ∃ n33, e31 = .returned (.tuple #[(.int .i64 n32), (.int .i64 n33)]) ∧ (Calls Try.prog 26 #[(.pointer p7)] w30 fun e35 w34 => ∃ n36, exR57 fun s37 => ∃ b38, e35 = .returned (.tuple #[(.int .i64 n36), s37.v, (.bool b38)]) ∧ (alc (.cells ((R57.mk 0 0 0 0 0 false 0 0 0 0 false none 0 0 false false)).c 58) w34 fun b39 w40 => stcL (Addr.mk b39 0 none) 0 s37.l w40 fun w41 => Calls Try.prog 16 #[(.pointer p7), (.int .i64 n1)] w41 fun e43 w42 => exR57 fun s44 => ∃ b45, e43 = .returned (.tuple #[s44.v, (.bool b45)]) ∧ (alc (.cells ((R57.mk 0 0 0 0 0 false 0 0 0 0 false none 0 0 false false)).c 58) w42 fun b46 w47 => stcL (Addr.mk b46 0 none) 0 s44.l w47 fun w48 => br (n14 != 4) (Kr (.bool false) w48) (br (n19 != 4) (Kr (.bool false) w48) (br (n26 != 4) (Kr (.bool false) w48) (br (n33 != 4) (Kr (.bool false) w48) (br b38 (Kr (.bool false) w48) (br b45 (Kr (.bool false) w48) (Calls Try.prog 27 #[(.pointer p7), (.int .i64 n1)] w48 fun e50 w49 => ∃ n51, e50 = .returned (.int .i64 n51) ∧ (Calls Try.prog 28 #[(.pointer p7)] w49 fun e53 w52 => ∃ n54, e53 = .returned (.int .i64 n54) ∧ (Calls Try.prog 18 #[(.pointer p7)] w52 fun e56 w55 => ∃ n57, e56 = .returned (.int .i64 n57) ∧ (Calls Try.prog 15 #[(.pointer p7)] w55 fun e59 w58 => ∃ l60a l60n l60c, e59 = .returned (.slice l60a l60n l60c) ∧ (br ((IntKind.wrap .i64 ((IntKind.wrap .i64 ((IntKind.wrap .i64 ((IntKind.wrap .i64 (n36 + n51)) + n54)) + n57)) + (l60n : Int))) != 0) (Kr (.bool false) w58) (Calls Try.prog 12 #[(.pointer p7)] w58 fun e62 w61 => ∃ n63, e62 = .returned (.int .u32 n63) ∧ (br (n63 != 0) (Kr (.bool false) w61) (Calls Try.prog 19 #[(.pointer p7)] w61 fun e65 w64 => ∃ n66, e65 = .returned (.int .u32 n66) ∧ (br (n66 != 0) (Kr (.bool false) w64) (R (.int .i64 n1) (.int .i64 n2) (.slice l3a l3n l3c) (.int .i64 n4) (.int .i64 (IntKind.wrap .i64 (n5 + 1))) w64))))))))))))))))))))))) (K0 w)
def F8_1 (K0 : World → Prop) (Kr : Value → World → Prop) : Nat → Value → Value → Value → Value → Value → World → Prop
  | 0 => fun _ _ _ _ _ _ => False
  | n + 1 => F8_1B (F8_1 K0 Kr n) K0 Kr
def F8_1O (Q : Post) (t : Tm) (w : World) : Prop := ∃ n, F8_1 (fun w => ∀ g, rsh [] (upds g []) fun t => Q (.exit 0) t w) (fun y4 w => ∀ g, rsh [(4, (.one .bool))] (upds g [(4, y4)]) fun t => Q .ret t w) n (t 0) (t 1) (t 25) (t 26) (t 27) w
theorem F8_1_step (K0 : World → Prop) (Kr : Value → World → Prop) (n : Nat) (t : Tm) (w : World) : (F8_1 K0 Kr (n + 1) (t 0) (t 1) (t 25) (t 26) (t 27) w) = rsh [(0, (.one (.int .i64))), (1, (.one (.int .i64))), (25, (.one .slc)), (26, (.one (.int .i64))), (27, (.one (.int .i64)))] t (fun t => vc Try.prog (orcOf []) [0, 0, 1, 0, 1, 1] (getAt F8_code [0, 0, 1, 0, 1, 1]) (fun o t w => match o with | .normal => F8_1 K0 Kr n (t 0) (t 1) (t 25) (t 26) (t 27) w | .exit i => F8_1C K0 Kr (.exit i) t w | .ret => F8_1C K0 Kr .ret t w) t w) := by kernel_rfl
theorem F8_1_ok : ∀ Q t w, F8_1O Q t w → W Try.prog Try.f8.ntmps (getAt F8_code [0, 1, 0, 1, 1]) Q t w := by
  intro Q t w ⟨n, h⟩
  refine (W_loop (P := Try.prog) (b := getAt F8_code [0, 0, 1, 0, 1, 1]) (Q := F8_1C (fun w => ∀ g, rsh [] (upds g []) fun t => Q (.exit 0) t w) (fun y4 w => ∀ g, rsh [(4, (.one .bool))] (upds g [(4, y4)]) fun t => Q .ret t w)) (G := fun n t w => F8_1 (fun w => ∀ g, rsh [] (upds g []) fun t => Q (.exit 0) t w) (fun y4 w => ∀ g, rsh [(4, (.one .bool))] (upds g [(4, y4)]) fun t => Q .ret t w) n (t 0) (t 1) (t 25) (t 26) (t 27) w) (fun _ _ h => h) (fun n t w h => ?_) n t w h).mono ?_
  · rw [F8_1_step] at h
    exact vc_sound mixed (orcNil F8_code) _ _ rfl (okC_at F8_code_ok [0, 0, 1, 0, 1, 1]) _ _ _ (rsh_out h)
  · intro o t w q
    cases o with
    | normal => exact q.elim
    | exit i =>
      unfold F8_1C at q
      simp only at q
      split at q
      · rename_i hi
        rw [nbeq] at hi
        subst hi
        exact out_ok [] q
      · exact q.elim
    | ret => exact out_ok [4] q
def F8 (x0 : Value) (x1 : Value) (w : World) (K : Value → World → Prop) : Prop :=
  rdI .i64 x0 fun n1 => rdI .i64 x1 fun n2 => alc (.cells ((R78.mk 0 0 none 0 0)).c 79) w fun b3 w4 => alc (.cells #[(.pointer none), (.pointer (some (Addr.mk b3 0 none)))] 32) w4 fun b5 w6 => ∃ k17 : Nat, F8_1 (fun w8 => ∀ _g9 : Tm, Calls Try.prog 14 #[] w8 fun e11 w10 => ∃ b12, e11 = .returned (.bool b12) ∧ (K (.bool b12) w10)) (fun y4_12 w14 => ∀ _g15 : Tm, rdB y4_12 fun b16 => K (.bool b16) w14) k17 (.int .i64 n1) (.int .i64 n2) (.slice (some (Addr.mk b5 0 none)) 2 2) (.int .i64 (2 : Int)) (.int .i64 0) w6
theorem F8_step (x0 : Value) (x1 : Value) (w : World) (K : Value → World → Prop) : (F8 x0 x1 w K) = rsh [(0, (.one (.int .i64))), (1, (.one (.int .i64)))] (args0 #[x0, x1]) (fun t => vc Try.prog (orcOf [([0, 1, 0, 1, 1], F8_1O)]) [] F8_code (retQ Try.prog Try.f8 K) t w) := by kernel_rfl
theorem F8_ok {x0 x1 : Value} {w : World} {K : Value → World → Prop} (h : F8 x0 x1 w K) : Calls Try.prog 8 #[x0, x1] w fun e w' => ∃ v, e = .returned v ∧ K v w' := by
  rw [F8_step] at h
  exact calls_of (c := F8_code) mixed Try.func8 rfl (nlt rfl) (vc_sound mixed (orcCons (π := [0, 1, 0, 1, 1]) F8_1_ok (orcNil F8_code)) F8_code [] rfl F8_code_ok _ _ _ (rsh_out h))

/-! ropewalk/outbox.New -/
noncomputable def F9_code : Code := Try.f9.body.getD .skip
theorem F9_code_ok : okC Try.prog Try.f9.ntmps F9_code = true := by kernel_rfl
def F9 (x0 : Value) (x1 : Value) (w : World) (K : Value → World → Prop) : Prop :=
  rdI .u32 x0 fun n1 => rdI .i64 x1 fun n2 => br (decide ((n2 : Int) < 1)) (K (.tuple #[(.pointer none), (.int .i64 1)]) w) (br (decide ((n2 : Int) > 8)) (K (.tuple #[(.pointer none), (.int .i64 1)]) w) (alc (.cells ((R78.mk n2 (IntKind.wrap .u32 (n1 - 1)) none 0 0)).c 79) w fun b3 w4 => K (.tuple #[(.pointer (some (Addr.mk b3 0 none))), (.int .i64 0)]) w4))
theorem F9_step (x0 : Value) (x1 : Value) (w : World) (K : Value → World → Prop) : (F9 x0 x1 w K) = rsh [(0, (.one (.int .u32))), (1, (.one (.int .i64)))] (args0 #[x0, x1]) (fun t => vc Try.prog (orcOf []) [] F9_code (retQ Try.prog Try.f9 K) t w) := by kernel_rfl
theorem F9_ok {x0 x1 : Value} {w : World} {K : Value → World → Prop} (h : F9 x0 x1 w K) : Calls Try.prog 9 #[x0, x1] w fun e w' => ∃ v, e = .returned v ∧ K v w' := by
  rw [F9_step] at h
  exact calls_of (c := F9_code) mixed Try.func9 rfl (nlt rfl) (vc_sound mixed (orcNil F9_code) F9_code [] rfl F9_code_ok _ _ _ (rsh_out h))

/-! (*ropewalk/outbox.Box).Put -/
noncomputable def F10_code : Code := Try.f10.body.getD .skip
theorem F10_code_ok : okC Try.prog Try.f10.ntmps F10_code = true := by kernel_rfl
def F10_1C (Kr : Value → Value → World → Prop) : Post := fun o t w => match o with | .normal => False | .exit _ => (False) | .ret => Kr (t 8) (t 9) w
def F10_1 (Kr : Value → Value → World → Prop) (x0 : Value) (x11 : Value) (w : World) : Prop :=
  rdP x0 fun p1 => rdA x11 fun a2 => drw w fun w3 => nn p1 fun a4 => ldC (a4.add 2) w3 fun l5a l5n l5c => ldR57 a2 w3 fun s6 => alc (.cells s6.c 93) w3 fun b7 w8 => Pres w3 w8 ∧ (alc (.cells #[(.pointer (some (Addr.mk b7 0 none)))] 91) w8 fun b9 w10 => Pres w3 w10 ∧ (∃ l11a l11n l11c w12, Sem.run Try.prog (Builtin.append_ #[77, 77] 77 #[(.slice l5a l5n l5c), (.slice (some (Addr.mk b9 0 none)) 1 1)]) w10 = .ok (.slice l11a l11n l11c) w12 ∧ (nn p1 fun a13 => stc (a13.add 2) (.slice l11a l11n l11c) w12 fun w14 => ldI .u32 (a2.add 0) w14 fun n15 => Kr (.int .u32 n15) (.int .i64 0) w14)))
def F10_1O (Q : Post) (t : Tm) (w : World) : Prop := F10_1 (fun y8 y9 w => ∀ g, rsh [(8, (.one (.int .u32))), (9, (.one (.int .i64)))] (upds g [(8, y8), (9, y9)]) fun t => Q .ret t w) (t 0) (t 11) w
theorem F10_1_step (Kr : Value → Value → World → Prop) (t : Tm) (w : World) : (F10_1 Kr (t 0) (t 11) w) = rsh [(0, (.one .ptr)), (11, (.one .adr))] t (fun t => vc Try.prog (orcOf []) [1, 1, 1, 1, 1] (getAt F10_code [1, 1, 1, 1, 1]) (F10_1C Kr) t w) := by kernel_rfl
theorem F10_1_ok : ∀ Q t w, F10_1O Q t w → W Try.prog Try.f10.ntmps (getAt F10_code [1, 1, 1, 1, 1]) Q t w := by
  intro Q t w h
  unfold F10_1O at h
  rw [F10_1_step] at h
  refine (vc_sound mixed (orcNil F10_code) _ _ rfl (okC_at F10_code_ok [1, 1, 1, 1, 1]) _ _ _ (rsh_out h)).mono ?_
  intro o t w q
  cases o with
  | normal => exact q.elim
  | exit i => exact q.elim
  | ret => exact out_ok [8, 9] q
def F10_2C (Kr : Value → Value → World → Prop) : Post := fun o t w => match o with | .normal => False | .exit _ => (False) | .ret => Kr (t 8) (t 9) w
def F10_2 (Kr : Value → Value → World → Prop) (x0 : Value) (x1 : Value) (x3 : Value) (x6 : Value) (w : World) : Prop :=
  rdP x0 fun p1 => rdI .i64 x1 fun n2 => rdI .i64 x3 fun n3 => rdA x6 fun a4 => nn p1 fun a5 => ldC (a5.add 2) w fun _ l6n _ => br (decide (((l6n : Int) : Int) ≥ 32768)) (Kr (.int .u32 0) (.int .i64 3) w) (drw w fun w7 => ∃ w8 : World, Pres w8 w7 ∧ (ldR40 a4 w8 fun s9 => ((Calls Try.prog 19 #[(.pointer p1)] w7 fun e11 w10 => ∃ n12, e11 = .returned (.int .u32 n12) ∧ (Pres w8 w10 ∧ (((Calls Try.prog 30 #[(.agg #[(.int .u32 n12), (.int .i64 n2), (.int .i64 1), (.int .i64 n3), (.int .i64 0), (.bool false), (.int .i64 1), (.int .u16 s9.f0), (.int .u16 s9.f1), (.int .u32 s9.f2), (.bool s9.f3), (.slice s9.f4a s9.f4n s9.f4c), (.bool s9.f5), (.bool s9.f6)])] w10 fun e14 w13 => exR57 fun s15 => e14 = .returned s15.v ∧ (alc (.cells ((R57.mk 0 0 0 0 0 false 0 0 0 0 false none 0 0 false false)).c 58) w13 fun b16 w17 => Pres w8 w17 ∧ (stcL (Addr.mk b16 0 none) 0 s15.l w17 fun w18 => F10_1 (fun y8_18 y9_18 w20 => ∀ _g21 : Tm, rdI .u32 y8_18 fun n22 => rdI .i64 y9_18 fun n23 => Kr (.int .u32 n22) (.int .i64 n23) w20) (.pointer p1) (.pointer (some (Addr.mk b16 0 none))) w18))) ∧ (alc (.cells ((R57.mk 0 0 0 0 0 false 0 0 0 0 false none 0 0 false false)).c 58) w10 fun b24 w25 => Pres w8 w25 ∧ (Calls Try.prog 30 #[(.agg #[(.int .u32 n12), (.int .i64 n2), (.int .i64 1), (.int .i64 n3), (.int .i64 0), (.bool false), (.int .i64 1), (.int .u16 s9.f0), (.int .u16 s9.f1), (.int .u32 s9.f2), (.bool s9.f3), (.slice s9.f4a s9.f4n s9.f4c), (.bool s9.f5), (.bool s9.f6)])] w25 fun e27 w26 => exR57 fun s28 => e27 = .returned s28.v ∧ (stcL (Addr.mk b24 0 none) 0 s28.l w26 fun w29 => F10_1 (fun y8_29 y9_29 w31 => ∀ _g32 : Tm, rdI .u32 y8_29 fun n33 => rdI .i64 y9_29 fun n34 => Kr (.int .u32 n33) (.int .i64 n34) w31) (.pointer p1) (.pointer (some (Addr.mk b24 0 none))) w29))))))) ∧ (alc (.cells ((R57.mk 0 0 0 0 0 false 0 0 0 0 false none 0 0 false false)).c 58) w7 fun b35 w36 => Pres w8 w36 ∧ (Calls Try.prog 19 #[(.pointer p1)] w36 fun e38 w37 => ∃ n39, e38 = .returned (.int .u32 n39) ∧ (Pres w8 w37 ∧ (Calls Try.prog 30 #[(.agg #[(.int .u32 n39), (.int .i64 n2), (.int .i64 1), (.int .i64 n3), (.int .i64 0), (.bool false), (.int .i64 1), (.int .u16 s9.f0), (.int .u16 s9.f1), (.int .u32 s9.f2), (.bool s9.f3), (.slice s9.f4a s9.f4n s9.f4c), (.bool s9.f5), (.bool s9.f6)])] w37 fun e41 w40 => exR57 fun s42 => e41 = .returned s42.v ∧ (stcL (Addr.mk b35 0 none) 0 s42.l w40 fun w43 => F10_1 (fun y8_43 y9_43 w45 => ∀ _g46 : Tm, rdI .u32 y8_43 fun n47 => rdI .i64 y9_43 fun n48 => Kr (.int .u32 n47) (.int .i64 n48) w45) (.pointer p1) (.pointer (some (Addr.mk b35 0 none))) w43))))))))
def F10_2O (Q : Post) (t : Tm) (w : World) : Prop := F10_2 (fun y8 y9 w => ∀ g, rsh [(8, (.one (.int .u32))), (9, (.one (.int .i64)))] (upds g [(8, y8), (9, y9)]) fun t => Q .ret t w) (t 0) (t 1) (t 3) (t 6) w
theorem F10_2_step (Kr : Value → Value → World → Prop) (t : Tm) (w : World) : (F10_2 Kr (t 0) (t 1) (t 3) (t 6) w) = rsh [(0, (.one .ptr)), (1, (.one (.int .i64))), (3, (.one (.int .i64))), (6, (.one .adr))] t (fun t => vc Try.prog (orcOf [([1, 1, 1, 1, 1], F10_1O)]) [1, 1, 1] (getAt F10_code [1, 1, 1]) (F10_2C Kr) t w) := by kernel_rfl
theorem F10_2_ok : ∀ Q t w, F10_2O Q t w → W Try.prog Try.f10.ntmps (getAt F10_code [1, 1, 1]) Q t w := by
  intro Q t w h
  unfold F10_2O at h
  rw [F10_2_step] at h
  refine (vc_sound mixed (orcCons (π := [1, 1, 1, 1, 1]) F10_1_ok (orcNil F10_code)) _ _ rfl (okC_at F10_code_ok [1, 1, 1]) _ _ _ (rsh_out h)).mono ?_
  intro o t w q
  cases o with
  | normal => exact q.elim
  | exit i => exact q.elim
  | ret => exact out_ok [8, 9] q
def F10 (x0 : Value) (x1 : Value) (x2 : Value) (x3 : Value) (w : World) (K : Value → World → Prop) : Prop :=
  rdP x0 fun p1 => rdI .i64 x1 fun n2 => exR40 fun s3 => x2 = s3.v ∧ (rdI .i64 x3 fun n4 => alc (.cells s3.c 41) w fun b5 w6 => Calls Try.prog 29 #[(.pointer p1), (.int .i64 n2), (.int .i64 n4)] w6 fun e8 w7 => ∃ n9, e8 = .returned (.int .i64 n9) ∧ (br (n9 != 0) (K (.tuple #[(.int .u32 0), (.int .i64 n9)]) w7) (ldC (((Addr.mk b5 0 none).add 0).add 4) w7 fun _ l10n _ => br ((l10n : Int) == 0) (K (.tuple #[(.int .u32 0), (.int .i64 1)]) w7) (ldC (((Addr.mk b5 0 none).add 0).add 4) w7 fun _ l11n _ => br (decide (((l11n : Int) : Int) > 65536)) (K (.tuple #[(.int .u32 0), (.int .i64 1)]) w7) (F10_2 (fun y8_11 y9_11 w13 => ∀ _g14 : Tm, rdI .u32 y8_11 fun n15 => rdI .i64 y9_11 fun n16 => K (.tuple #[(.int .u32 n15), (.int .i64 n16)]) w13) (.pointer p1) (.int .i64 n2) (.int .i64 n4) (.pointer (some (Addr.mk b5 0 none))) w7)))))
theorem F10_step (x0 : Value) (x1 : Value) (x2 : Value) (x3 : Value) (w : World) (K : Value → World → Prop) : (F10 x0 x1 x2 x3 w K) = rsh [(0, (.one .ptr)), (1, (.one (.int .i64))), (2, (.agg [(.int .u16), (.int .u16), (.int .u32), .bool, .slc, .bool, .bool])), (3, (.one (.int .i64)))] (args0 #[x0, x1, x2, x3]) (fun t => vc Try.prog (orcOf [([1, 1, 1, 1, 1], F10_1O), ([1, 1, 1], F10_2O)]) [] F10_code (retQ Try.prog Try.f10 K) t w) := by kernel_rfl
theorem F10_ok {x0 x1 x2 x3 : Value} {w : World} {K : Value → World → Prop} (h : F10 x0 x1 x2 x3 w K) : Calls Try.prog 10 #[x0, x1, x2, x3] w fun e w' => ∃ v, e = .returned v ∧ K v w' := by
  rw [F10_step] at h
  exact calls_of (c := F10_code) mixed Try.func10 rfl (nlt rfl) (vc_sound mixed (orcCons (π := [1, 1, 1, 1, 1]) F10_1_ok (orcCons (π := [1, 1, 1]) F10_2_ok (orcNil F10_code))) F10_code [] rfl F10_code_ok _ _ _ (rsh_out h))

/-! ropewalk/ropewalklaw17.part -/
noncomputable def F11_code : Code := Try.f11.body.getD .skip
theorem F11_code_ok : okC Try.prog Try.f11.ntmps F11_code = true := by kernel_rfl
def F11 (x0 : Value) (w : World) (K : Value → World → Prop) : Prop :=
  rdS x0 fun s1 => alc (.cells ((R40.mk 0 0 0 false none 0 0 false false)).c 41) w fun b2 w3 => ∃ l4a l4n l4c, ∃ w5, Sem.run Try.prog (convert 9 23 (.string s1)) w3 = .ok (.slice l4a l4n l4c) w5 ∧ (stcL (Addr.mk b2 0 none) 0 (R40.mk 0 0 0 false l4a l4n l4c true true).l w5 fun w6 => ldR40 (Addr.mk b2 0 none) w6 fun s7 => K s7.v w6)
theorem F11_step (x0 : Value) (w : World) (K : Value → World → Prop) : (F11 x0 w K) = rsh [(0, (.one .str))] (args0 #[x0]) (fun t => vc Try.prog (orcOf []) [] F11_code (retQ Try.prog Try.f11 K) t w) := by kernel_rfl
theorem F11_ok {x0 : Value} {w : World} {K : Value → World → Prop} (h : F11 x0 w K) : Calls Try.prog 11 #[x0] w fun e w' => ∃ v, e = .returned v ∧ K v w' := by
  rw [F11_step] at h
  exact calls_of (c := F11_code) mixed Try.func11 rfl (nlt rfl) (vc_sound mixed (orcNil F11_code) F11_code [] rfl F11_code_ok _ _ _ (rsh_out h))

/-! (*ropewalk/outbox.Box).Cum -/
noncomputable def F12_code : Code := Try.f12.body.getD .skip
theorem F12_code_ok : okC Try.prog Try.f12.ntmps F12_code = true := by kernel_rfl
def F12 (x0 : Value) (w : World) (K : Value → World → Prop) : Prop :=
  rdP x0 fun p1 => Calls Try.prog 31 #[(.pointer p1)] w fun e3 w2 => ∃ b4, e3 = .returned (.bool b4) ∧ (br (!b4) (K (.int .u32 0) w2) (nn p1 fun a5 => ldI .u32 (a5.add 1) w2 fun n6 => K (.int .u32 n6) w2))
theorem F12_step (x0 : Value) (w : World) (K : Value → World → Prop) : (F12 x0 w K) = rsh [(0, (.one .ptr))] (args0 #[x0]) (fun t => vc Try.prog (orcOf []) [] F12_code (retQ Try.prog Try.f12 K) t w) := by kernel_rfl
theorem F12_ok {x0 : Value} {w : World} {K : Value → World → Prop} (h : F12 x0 w K) : Calls Try.prog 12 #[x0] w fun e w' => ∃ v, e = .returned v ∧ K v w' := by
  rw [F12_step] at h
  exact calls_of (c := F12_code) mixed Try.func12 rfl (nlt rfl) (vc_sound mixed (orcNil F12_code) F12_code [] rfl F12_code_ok _ _ _ (rsh_out h))

/-! (*ropewalk/outbox.Box).Report -/
noncomputable def F13_code : Code := Try.f13.body.getD .skip
theorem F13_code_ok : okC Try.prog Try.f13.ntmps F13_code = true := by kernel_rfl
def F13_1C (Kr : Value → Value → World → Prop) : Post := fun o t w => match o with | .normal => False | .exit _ => (False) | .ret => Kr (t 6) (t 7) w
def F13_1 (Kr : Value → Value → World → Prop) (x0 : Value) (x2 : Value) (x4 : Value) (x6 : Value) (x8 : Value) (x9 : Value) (w : World) : Prop :=
  rdP x0 fun p1 => rdI .i64 x2 fun n2 => rdA x4 fun a3 => rdA x6 fun a4 => rdC x8 fun l5a l5n l5c => rdI .i64 x9 fun n6 => br (n6 != 0) (stcL a4 0 (R47.mk none 0 0 0 0).l w fun w7 => Kr (.pointer (some a4)) (.int .i64 n6) w7) (ldR30 a3 w fun s8 => Calls Try.prog 33 #[(.pointer p1), s8.v, (.slice l5a l5n l5c)] w fun e10 w9 => exR95 fun s11 => e10 = .returned s11.v ∧ (alc (.cells ((R95.mk none 0 0 none 0 0 none 0 0)).c 96) w9 fun b12 w13 => stcL (Addr.mk b12 0 none) 0 s11.l w13 fun w14 => ldR95 (Addr.mk b12 0 none) w14 fun s15 => Calls Try.prog 34 #[(.pointer p1), s15.v, (.int .i64 n2)] w14 fun e17 w16 => ∃ l18a l18n l18c, e17 = .returned (.slice l18a l18n l18c) ∧ (alc (.cells ((R47.mk none 0 0 0 0)).c 48) w16 fun b19 w20 => stcL (Addr.mk b19 0 none) 0 (R47.mk l18a l18n l18c 0 0).l w20 fun w21 => ldR95 (Addr.mk b12 0 none) w21 fun s22 => Calls Try.prog 35 #[(.pointer p1), s22.v, (.pointer (some (Addr.mk b19 0 none)))] w21 fun e24 w23 => e24 = .returned (.tuple #[]) ∧ (ldR95 (Addr.mk b12 0 none) w23 fun s25 => Calls Try.prog 36 #[(.pointer p1), s25.v, (.pointer (some (Addr.mk b19 0 none)))] w23 fun e27 w26 => e27 = .returned (.tuple #[]) ∧ (drw w26 fun w28 => ∃ w29 : World, Pres w29 w28 ∧ (nn p1 fun a30 => ldC (a30.add 2) w29 fun l31a l31n l31c => nn p1 fun a32 => ldI .u32 (a32.add 1) w28 fun n33 => ldI .u32 (a3.add 2) w28 fun n34 => Calls Try.prog 37 #[(.int .u32 n33), (.int .u32 n34)] w28 fun e36 w35 => ∃ n37, e36 = .returned (.int .i64 n37) ∧ (Pres w29 w35 ∧ (slS 1 l31a l31n l31c (some (.int .i64 n37)) none fun l38a l38n l38c => nn p1 fun a39 => stc (a39.add 2) (.slice l38a l38n l38c) w35 fun w40 => ldI .u32 (a3.add 2) w40 fun n41 => nn p1 fun a42 => stc (a42.add 1) (.int .u32 n41) w40 fun w43 => ldR47 (Addr.mk b19 0 none) w43 fun s44 => stcL a4 0 s44.l w43 fun w45 => Kr (.pointer (some a4)) (.int .i64 0) w45))))))))
def F13_1O (Q : Post) (t : Tm) (w : World) : Prop := F13_1 (fun y6 y7 w => ∀ g, rsh [(6, (.one .adr)), (7, (.one (.int .i64)))] (upds g [(6, y6), (7, y7)]) fun t => Q .ret t w) (t 0) (t 2) (t 4) (t 6) (t 8) (t 9) w
theorem F13_1_step (Kr : Value → Value → World → Prop) (t : Tm) (w : World) : (F13_1 Kr (t 0) (t 2) (t 4) (t 6) (t 8) (t 9) w) = rsh [(0, (.one .ptr)), (2, (.one (.int .i64))), (4, (.one .adr)), (6, (.one .adr)), (8, (.one .slc)), (9, (.one (.int .i64)))] t (fun t => vc Try.prog (orcOf []) [1, 1, 1, 1, 1, 1, 1] (getAt F13_code [1, 1, 1, 1, 1, 1, 1]) (F13_1C Kr) t w) := by kernel_rfl
theorem F13_1_ok : ∀ Q t w, F13_1O Q t w → W Try.prog Try.f13.ntmps (getAt F13_code [1, 1, 1, 1, 1, 1, 1]) Q t w := by
  intro Q t w h
  unfold F13_1O at h
  rw [F13_1_step] at h
  refine (vc_sound mixed (orcNil F13_code) _ _ rfl (okC_at F13_code_ok [1, 1, 1, 1, 1, 1, 1]) _ _ _ (rsh_out h)).mono ?_
  intro o t w q
  cases o with
  | normal => exact q.elim
  | exit i => exact q.elim
  | ret => exact out_ok [6, 7] q
def F13_2C (Kr : Value → Value → World → Prop) : Post := fun o t w => match o with | .normal => False | .exit _ => (False) | .ret => Kr (t 6) (t 7) w
def F13_2 (Kr : Value → Value → World → Prop) (x0 : Value) (x2 : Value) (x4 : Value) (x6 : Value) (x8 : Value) (w : World) : Prop :=
  rdP x0 fun p1 => rdI .i64 x2 fun n2 => rdA x4 fun a3 => rdA x6 fun a4 => rdC x8 fun l5a l5n l5c => ldR30 a3 w fun s6 => ldC (a3.add 10) w fun l7a l7n l7c => alc (.cells #[(.slice l7a l7n l7c), (.slice l5a l5n l5c)] 27) w fun b8 w9 => Calls Try.prog 32 #[(.pointer p1), s6.v, (.slice (some (Addr.mk b8 0 none)) 2 2)] w9 fun e11 w10 => ∃ n12, e11 = .returned (.int .i64 n12) ∧ (br (n12 == 172) (stcL a4 0 (R47.mk none 0 0 0 0).l w10 fun w13 => Kr (.pointer (some a4)) (.int .i64 n12) w13) (br (decide ((n2 : Int) < 0)) (stcL a4 0 (R47.mk none 0 0 0 0).l w10 fun w14 => Kr (.pointer (some a4)) (.int .i64 1) w14) (br (decide ((n2 : Int) > 1099511627776)) (stcL a4 0 (R47.mk none 0 0 0 0).l w10 fun w15 => Kr (.pointer (some a4)) (.int .i64 1) w15) (F13_1 (fun y6_15 y7_15 w17 => ∀ _g18 : Tm, rdA y6_15 fun a19 => rdI .i64 y7_15 fun n20 => Kr (.pointer (some a19)) (.int .i64 n20) w17) (.pointer p1) (.int .i64 n2) (.pointer (some a3)) (.pointer (some a4)) (.slice l5a l5n l5c) (.int .i64 n12) w10))))
def F13_2O (Q : Post) (t : Tm) (w : World) : Prop := F13_2 (fun y6 y7 w => ∀ g, rsh [(6, (.one .adr)), (7, (.one (.int .i64)))] (upds g [(6, y6), (7, y7)]) fun t => Q .ret t w) (t 0) (t 2) (t 4) (t 6) (t 8) w
theorem F13_2_step (Kr : Value → Value → World → Prop) (t : Tm) (w : World) : (F13_2 Kr (t 0) (t 2) (t 4) (t 6) (t 8) w) = rsh [(0, (.one .ptr)), (2, (.one (.int .i64))), (4, (.one .adr)), (6, (.one .adr)), (8, (.one .slc))] t (fun t => vc Try.prog (orcOf [([1, 1, 1, 1, 1, 1, 1], F13_1O)]) [1, 1, 1, 1] (getAt F13_code [1, 1, 1, 1]) (F13_2C Kr) t w) := by kernel_rfl
theorem F13_2_ok : ∀ Q t w, F13_2O Q t w → W Try.prog Try.f13.ntmps (getAt F13_code [1, 1, 1, 1]) Q t w := by
  intro Q t w h
  unfold F13_2O at h
  rw [F13_2_step] at h
  refine (vc_sound mixed (orcCons (π := [1, 1, 1, 1, 1, 1, 1]) F13_1_ok (orcNil F13_code)) _ _ rfl (okC_at F13_code_ok [1, 1, 1, 1]) _ _ _ (rsh_out h)).mono ?_
  intro o t w q
  cases o with
  | normal => exact q.elim
  | exit i => exact q.elim
  | ret => exact out_ok [6, 7] q
def F13 (x0 : Value) (x1 : Value) (x2 : Value) (w : World) (K : Value → World → Prop) : Prop :=
  rdP x0 fun p1 => exR30 fun s2 => x1 = s2.v ∧ (rdI .i64 x2 fun n3 => alc (.cells s2.c 31) w fun b4 w5 => alc (.cells ((R47.mk none 0 0 0 0)).c 48) w5 fun b6 w7 => Calls Try.prog 31 #[(.pointer p1)] w7 fun e9 w8 => ∃ b10, e9 = .returned (.bool b10) ∧ (br (!b10) (stcL (Addr.mk b6 0 none) 0 (R47.mk none 0 0 0 0).l w8 fun w11 => ldR47 (Addr.mk b6 0 none) w11 fun s12 => K (.tuple #[s12.v, (.int .i64 4)]) w11) (ldI .u8 ((Addr.mk b4 0 none).add 0) w8 fun n13 => br (n13 == 16) (ldC ((Addr.mk b4 0 none).add 11) w8 fun l14a l14n l14c => F13_2 (fun y6_14 y7_14 w16 => ∀ _g17 : Tm, rdA y6_14 fun a18 => rdI .i64 y7_14 fun n19 => ldR47 a18 w16 fun s20 => K (.tuple #[s20.v, (.int .i64 n19)]) w16) (.pointer p1) (.int .i64 n3) (.pointer (some (Addr.mk b4 0 none))) (.pointer (some (Addr.mk b6 0 none))) (.slice l14a l14n l14c) w8) (F13_2 (fun y6_20 y7_20 w22 => ∀ _g23 : Tm, rdA y6_20 fun a24 => rdI .i64 y7_20 fun n25 => ldR47 a24 w22 fun s26 => K (.tuple #[s26.v, (.int .i64 n25)]) w22) (.pointer p1) (.int .i64 n3) (.pointer (some (Addr.mk b4 0 none))) (.pointer (some (Addr.mk b6 0 none))) (.slice none 0 0) w8))))
theorem F13_step (x0 : Value) (x1 : Value) (x2 : Value) (w : World) (K : Value → World → Prop) : (F13 x0 x1 x2 w K) = rsh [(0, (.one .ptr)), (1, (.agg [(.int .u8), (.int .u8), (.int .u32), (.int .u16), (.int .u16), (.int .u32), (.int .u32), (.int .u32), (.int .u16), (.int .u16), .slc, .slc, .slc, .slc, .slc])), (2, (.one (.int .i64)))] (args0 #[x0, x1, x2]) (fun t => vc Try.prog (orcOf [([1, 1, 1, 1, 1, 1, 1], F13_1O), ([1, 1, 1, 1], F13_2O)]) [] F13_code (retQ Try.prog Try.f13 K) t w) := by kernel_rfl
theorem F13_ok {x0 x1 x2 : Value} {w : World} {K : Value → World → Prop} (h : F13 x0 x1 x2 w K) : Calls Try.prog 13 #[x0, x1, x2] w fun e w' => ∃ v, e = .returned v ∧ K v w' := by
  rw [F13_step] at h
  exact calls_of (c := F13_code) mixed Try.func13 rfl (nlt rfl) (vc_sound mixed (orcCons (π := [1, 1, 1, 1, 1, 1, 1]) F13_1_ok (orcCons (π := [1, 1, 1, 1]) F13_2_ok (orcNil F13_code))) F13_code [] rfl F13_code_ok _ _ _ (rsh_out h))

/-! ropewalk/ropewalklaw17.alive -/
noncomputable def F14_code : Code := Try.f14.body.getD .skip
theorem F14_code_ok : okC Try.prog Try.f14.ntmps F14_code = true := by kernel_rfl
def F14_1C (Kr : Value → World → Prop) : Post := fun o t w => match o with | .normal => False | .exit _ => (False) | .ret => Kr (t 0) w
def F14_1 (Kr : Value → World → Prop) (x1 : Value) (w : World) : Prop :=
  rdP x1 fun p1 => Calls Try.prog 11 #[(.string ⟨#[97, 98]⟩)] w fun e3 w2 => exR40 fun s4 => e3 = .returned s4.v ∧ (Calls Try.prog 10 #[(.pointer p1), (.int .i64 0), s4.v, (.int .i64 5)] w2 fun e6 w5 => ∃ n7, ∃ n8, e6 = .returned (.tuple #[(.int .u32 n7), (.int .i64 n8)]) ∧ (Calls Try.prog 11 #[(.string ⟨#[99]⟩)] w5 fun e10 w9 => exR40 fun s11 => e10 = .returned s11.v ∧ (Calls Try.prog 10 #[(.pointer p1), (.int .i64 0), s11.v, (.int .i64 6)] w9 fun e13 w12 => ∃ n14, ∃ n15, e13 = .returned (.tuple #[(.int .u32 n14), (.int .i64 n15)]) ∧ (alc (.cells #[(.int .u16 2), (.int .u16 2)] 44) w12 fun b16 w17 => Calls Try.prog 13 #[(.pointer p1), (.agg #[(.int .u8 3), (.int .u8 0), (.int .u32 0), (.int .u16 0), (.int .u16 0), (.int .u32 0), (.int .u32 0), (.int .u32 0), (.int .u16 0), (.int .u16 0), (.slice (some (Addr.mk b16 0 none)) 1 1), (.slice none 0 0), (.slice none 0 0), (.slice none 0 0), (.slice none 0 0)]), (.int .i64 9)] w17 fun e19 w18 => exR47 fun s20 => ∃ n21, e19 = .returned (.tuple #[s20.v, (.int .i64 n21)]) ∧ (alc (.cells ((R47.mk none 0 0 0 0)).c 48) w18 fun b22 w23 => stcL (Addr.mk b22 0 none) 0 s20.l w23 fun w24 => Calls Try.prog 15 #[(.pointer p1)] w24 fun e26 w25 => ∃ l27a l27n l27c, e26 = .returned (.slice l27a l27n l27c) ∧ (br (n8 == 0) (br (n15 == 0) (br (n21 == 0) (br (n7 == 1) (br (n14 == 2) (ldI .i64 ((Addr.mk b22 0 none).add 1) w25 fun n28 => br (n28 == 0) (ldC ((Addr.mk b22 0 none).add 0) w25 fun _ l29n _ => br ((l29n : Int) == 2) (ldC ((Addr.mk b22 0 none).add 0) w25 fun l30a l30n _ => ixS 4 l30a l30n 0 fun a31 => ldR52 a31 w25 fun s32 => ∃ b33, ∃ w34, Sem.run Try.prog (binF Try.prog .eql 53 (.tmp 75) (.tmp 76) s32.v (.agg #[(.int .i64 1), (.bool false), (.int .i64 3), (.int .i64 0)])) w25 = .ok (.bool b33) w34 ∧ (br b33 (Calls Try.prog 27 #[(.pointer p1), (.int .i64 0)] w34 fun e36 w35 => ∃ n37, e36 = .returned (.int .i64 n37) ∧ (br (n37 == 2) (br ((l27n : Int) == 2) (ixS 14 l27a l27n 0 fun a38 => ldI .i64 (a38.add 4) w35 fun n39 => br (n39 == 1) (ixS 14 l27a l27n 1 fun a40 => ldI .i64 (a40.add 6) w35 fun n41 => Kr (.bool (n41 == 3)) w35) (Kr (.bool false) w35)) (Kr (.bool false) w35)) (Kr (.bool false) w35))) (Kr (.bool false) w34))) (Kr (.bool false) w25)) (Kr (.bool false) w25)) (Kr (.bool false) w25)) (Kr (.bool false) w25)) (Kr (.bool false) w25)) (Kr (.bool false) w25)) (Kr (.bool false) w25)))))))
def F14_1O (Q : Post) (t : Tm) (w : World) : Prop := F14_1 (fun y0 w => ∀ g, rsh [(0, (.one .bool))] (upds g [(0, y0)]) fun t => Q .ret t w) (t 1) w
theorem F14_1_step (Kr : Value → World → Prop) (t : Tm) (w : World) : (F14_1 Kr (t 1) w) = rsh [(1, (.one .ptr))] t (fun t => vc Try.prog (orcOf []) [1, 1, 1] (getAt F14_code [1, 1, 1]) (F14_1C Kr) t w) := by kernel_rfl
theorem F14_1_ok : ∀ Q t w, F14_1O Q t w → W Try.prog Try.f14.ntmps (getAt F14_code [1, 1, 1]) Q t w := by
  intro Q t w h
  unfold F14_1O at h
  rw [F14_1_step] at h
  refine (vc_sound mixed (orcNil F14_code) _ _ rfl (okC_at F14_code_ok [1, 1, 1]) _ _ _ (rsh_out h)).mono ?_
  intro o t w q
  cases o with
  | normal => exact q.elim
  | exit i => exact q.elim
  | ret => exact out_ok [0] q
def F14 (w : World) (K : Value → World → Prop) : Prop :=
  Calls Try.prog 9 #[(.int .u32 1), (.int .i64 2)] w fun e2 w1 => ∃ p3, ∃ n4, e2 = .returned (.tuple #[(.pointer p3), (.int .i64 n4)]) ∧ (br (n4 != 0) (K (.bool false) w1) (br (Option.isNone p3) (K (.bool false) w1) (F14_1 (fun y0_4 w6 => ∀ _g7 : Tm, rdB y0_4 fun b8 => K (.bool b8) w6) (.pointer p3) w1)))
theorem F14_step (w : World) (K : Value → World → Prop) : (F14  w K) = rsh [] (args0 #[]) (fun t => vc Try.prog (orcOf [([1, 1, 1], F14_1O)]) [] F14_code (retQ Try.prog Try.f14 K) t w) := by kernel_rfl
theorem F14_ok {w : World} {K : Value → World → Prop} (h : F14 w K) : Calls Try.prog 14 #[] w fun e w' => ∃ v, e = .returned v ∧ K v w' := by
  rw [F14_step] at h
  exact calls_of (c := F14_code) mixed Try.func14 rfl (nlt rfl) (vc_sound mixed (orcCons (π := [1, 1, 1]) F14_1_ok (orcNil F14_code)) F14_code [] rfl F14_code_ok _ _ _ (rsh_out h))

/-! (*ropewalk/outbox.Box).All -/
noncomputable def F15_code : Code := Try.f15.body.getD .skip
theorem F15_code_ok : okC Try.prog Try.f15.ntmps F15_code = true := by kernel_rfl
def F15_1C (K0 : Value → World → Prop) : Post := fun o t w => match o with | .normal => False | .exit i => (match Nat.beq i 0 with | true => K0 (t 3) w | false => False) | .ret => False
def F15_1B (R : Value → Value → Value → Value → World → Prop) (K0 : Value → World → Prop) (x3 : Value) (x12 : Value) (x13 : Value) (x14 : Value) (w : World) : Prop :=
  rdC x3 fun l1a l1n l1c => rdC x12 fun l2a l2n l2c => rdI .i64 x13 fun n3 => rdI .i64 x14 fun n4 => br (decide ((n4 : Int) < n3)) (ixS 1 l2a l2n n4 fun a5 => ldP a5 w fun p6 => nn p6 fun a7 => ldR57 (a7.add 0) w fun s8 => Calls Try.prog 30 #[s8.v] w fun e10 w9 => exR57 fun s11 => e10 = .returned s11.v ∧ (alc (.cells s11.c 58) w9 fun b12 w13 => ∃ l14a l14n l14c w15, Sem.run Try.prog (Builtin.append_ #[54, 54] 54 #[(.slice l1a l1n l1c), (.slice (some (Addr.mk b12 0 none)) 1 1)]) w13 = .ok (.slice l14a l14n l14c) w15 ∧ (R (.slice l14a l14n l14c) (.slice l2a l2n l2c) (.int .i64 n3) (.int .i64 (IntKind.wrap .i64 (n4 + 1))) w15))) (K0 (.slice l1a l1n l1c) w)
def F15_1 (K0 : Value → World → Prop) : Nat → Value → Value → Value → Value → World → Prop
  | 0 => fun _ _ _ _ _ => False
  | n + 1 => F15_1B (F15_1 K0 n) K0
def F15_1O (Q : Post) (t : Tm) (w : World) : Prop := ∃ n, F15_1 (fun y3 w => ∀ g, rsh [(3, (.one .slc))] (upds g [(3, y3)]) fun t => Q (.exit 0) t w) n (t 3) (t 12) (t 13) (t 14) w
theorem F15_1_step (K0 : Value → World → Prop) (n : Nat) (t : Tm) (w : World) : (F15_1 K0 (n + 1) (t 3) (t 12) (t 13) (t 14) w) = rsh [(3, (.one .slc)), (12, (.one .slc)), (13, (.one (.int .i64))), (14, (.one (.int .i64)))] t (fun t => vc Try.prog (orcOf []) [0, 0, 1, 0, 1, 1, 1] (getAt F15_code [0, 0, 1, 0, 1, 1, 1]) (fun o t w => match o with | .normal => F15_1 K0 n (t 3) (t 12) (t 13) (t 14) w | .exit i => F15_1C K0 (.exit i) t w | .ret => F15_1C K0 .ret t w) t w) := by kernel_rfl
theorem F15_1_ok : ∀ Q t w, F15_1O Q t w → W Try.prog Try.f15.ntmps (getAt F15_code [0, 1, 0, 1, 1, 1]) Q t w := by
  intro Q t w ⟨n, h⟩
  refine (W_loop (P := Try.prog) (b := getAt F15_code [0, 0, 1, 0, 1, 1, 1]) (Q := F15_1C (fun y3 w => ∀ g, rsh [(3, (.one .slc))] (upds g [(3, y3)]) fun t => Q (.exit 0) t w)) (G := fun n t w => F15_1 (fun y3 w => ∀ g, rsh [(3, (.one .slc))] (upds g [(3, y3)]) fun t => Q (.exit 0) t w) n (t 3) (t 12) (t 13) (t 14) w) (fun _ _ h => h) (fun n t w h => ?_) n t w h).mono ?_
  · rw [F15_1_step] at h
    exact vc_sound mixed (orcNil F15_code) _ _ rfl (okC_at F15_code_ok [0, 0, 1, 0, 1, 1, 1]) _ _ _ (rsh_out h)
  · intro o t w q
    cases o with
    | normal => exact q.elim
    | exit i =>
      unfold F15_1C at q
      simp only at q
      split at q
      · rename_i hi
        rw [nbeq] at hi
        subst hi
        exact out_ok [3] q
      · exact q.elim
    | ret => exact q.elim
def F15 (x0 : Value) (w : World) (K : Value → World → Prop) : Prop :=
  rdP x0 fun p1 => Calls Try.prog 31 #[(.pointer p1)] w fun e3 w2 => ∃ b4, e3 = .returned (.bool b4) ∧ (br (!b4) (K (.slice none 0 0) w2) (nn p1 fun a5 => ldC (a5.add 2) w2 fun l6a l6n l6c => ∃ k11 : Nat, F15_1 (fun y3_6 w8 => ∀ _g9 : Tm, rdC y3_6 fun l10a l10n l10c => K (.slice l10a l10n l10c) w8) k11 (.slice none 0 0) (.slice l6a l6n l6c) (.int .i64 (l6n : Int)) (.int .i64 0) w2))
theorem F15_step (x0 : Value) (w : World) (K : Value → World → Prop) : (F15 x0 w K) = rsh [(0, (.one .ptr))] (args0 #[x0]) (fun t => vc Try.prog (orcOf [([0, 1, 0, 1, 1, 1], F15_1O)]) [] F15_code (retQ Try.prog Try.f15 K) t w) := by kernel_rfl
theorem F15_ok {x0 : Value} {w : World} {K : Value → World → Prop} (h : F15 x0 w K) : Calls Try.prog 15 #[x0] w fun e w' => ∃ v, e = .returned v ∧ K v w' := by
  rw [F15_step] at h
  exact calls_of (c := F15_code) mixed Try.func15 rfl (nlt rfl) (vc_sound mixed (orcCons (π := [0, 1, 0, 1, 1, 1]) F15_1_ok (orcNil F15_code)) F15_code [] rfl F15_code_ok _ _ _ (rsh_out h))

/-! (*ropewalk/outbox.Box).First -/
noncomputable def F16_code : Code := Try.f16.body.getD .skip
theorem F16_code_ok : okC Try.prog Try.f16.ntmps F16_code = true := by kernel_rfl
def F16 (x0 : Value) (x1 : Value) (w : World) (K : Value → World → Prop) : Prop :=
  rdP x0 fun p1 => rdI .i64 x1 fun n2 => alc (.cells ((R57.mk 0 0 0 0 0 false 0 0 0 0 false none 0 0 false false)).c 58) w fun b3 w4 => Calls Try.prog 40 #[(.int .i64 n2)] w4 fun e6 w5 => ∃ v7, e6 = .returned v7 ∧ (Calls Try.prog 39 #[(.pointer p1), v7] w5 fun e9 w8 => ∃ p10, e9 = .returned (.pointer p10) ∧ (Calls Try.prog 38 #[(.pointer p10)] w8 fun e12 w11 => exR57 fun s13 => ∃ b14, e12 = .returned (.tuple #[s13.v, (.bool b14)]) ∧ (stcL (Addr.mk b3 0 none) 0 s13.l w11 fun w15 => ldR57 (Addr.mk b3 0 none) w15 fun s16 => K (.tuple #[s16.v, (.bool b14)]) w15)))
theorem F16_step (x0 : Value) (x1 : Value) (w : World) (K : Value → World → Prop) : (F16 x0 x1 w K) = rsh [(0, (.one .ptr)), (1, (.one (.int .i64)))] (args0 #[x0, x1]) (fun t => vc Try.prog (orcOf []) [] F16_code (retQ Try.prog Try.f16 K) t w) := by kernel_rfl
theorem F16_ok {x0 x1 : Value} {w : World} {K : Value → World → Prop} (h : F16 x0 x1 w K) : Calls Try.prog 16 #[x0, x1] w fun e w' => ∃ v, e = .returned v ∧ K v w' := by
  rw [F16_step] at h
  exact calls_of (c := F16_code) mixed Try.func16 rfl (nlt rfl) (vc_sound mixed (orcNil F16_code) F16_code [] rfl F16_code_ok _ _ _ (rsh_out h))

/-! ropewalk/ropewalkref17.New -/
noncomputable def F17_code : Code := Try.f17.body.getD .skip
theorem F17_code_ok : okC Try.prog Try.f17.ntmps F17_code = true := by kernel_rfl
def F17 (x0 : Value) (x1 : Value) (w : World) (K : Value → World → Prop) : Prop :=
  rdI .u32 x0 fun n1 => rdI .i64 x1 fun n2 => br (decide ((n2 : Int) < 1)) (K (.tuple #[(.pointer none), (.int .i64 1)]) w) (br (decide ((n2 : Int) > 8)) (K (.tuple #[(.pointer none), (.int .i64 1)]) w) (alc (.cells ((R78.mk n2 (IntKind.wrap .u32 (n1 - 1)) none 0 0)).c 107) w fun b3 w4 => K (.tuple #[(.pointer (some (Addr.mk b3 0 none))), (.int .i64 0)]) w4))
theorem F17_step (x0 : Value) (x1 : Value) (w : World) (K : Value → World → Prop) : (F17 x0 x1 w K) = rsh [(0, (.one (.int .u32))), (1, (.one (.int .i64)))] (args0 #[x0, x1]) (fun t => vc Try.prog (orcOf []) [] F17_code (retQ Try.prog Try.f17 K) t w) := by kernel_rfl
theorem F17_ok {x0 x1 : Value} {w : World} {K : Value → World → Prop} (h : F17 x0 x1 w K) : Calls Try.prog 17 #[x0, x1] w fun e w' => ∃ v, e = .returned v ∧ K v w' := by
  rw [F17_step] at h
  exact calls_of (c := F17_code) mixed Try.func17 rfl (nlt rfl) (vc_sound mixed (orcNil F17_code) F17_code [] rfl F17_code_ok _ _ _ (rsh_out h))

/-! (*ropewalk/outbox.Box).Len -/
noncomputable def F18_code : Code := Try.f18.body.getD .skip
theorem F18_code_ok : okC Try.prog Try.f18.ntmps F18_code = true := by kernel_rfl
def F18 (x0 : Value) (w : World) (K : Value → World → Prop) : Prop :=
  rdP x0 fun p1 => Calls Try.prog 31 #[(.pointer p1)] w fun e3 w2 => ∃ b4, e3 = .returned (.bool b4) ∧ (br (!b4) (K (.int .i64 0) w2) (nn p1 fun a5 => ldC (a5.add 2) w2 fun _ l6n _ => K (.int .i64 (l6n : Int)) w2))
theorem F18_step (x0 : Value) (w : World) (K : Value → World → Prop) : (F18 x0 w K) = rsh [(0, (.one .ptr))] (args0 #[x0]) (fun t => vc Try.prog (orcOf []) [] F18_code (retQ Try.prog Try.f18 K) t w) := by kernel_rfl
theorem F18_ok {x0 : Value} {w : World} {K : Value → World → Prop} (h : F18 x0 w K) : Calls Try.prog 18 #[x0] w fun e w' => ∃ v, e = .returned v ∧ K v w' := by
  rw [F18_step] at h
  exact calls_of (c := F18_code) mixed Try.func18 rfl (nlt rfl) (vc_sound mixed (orcNil F18_code) F18_code [] rfl F18_code_ok _ _ _ (rsh_out h))

/-! (*ropewalk/outbox.Box).Next -/
noncomputable def F19_code : Code := Try.f19.body.getD .skip
theorem F19_code_ok : okC Try.prog Try.f19.ntmps F19_code = true := by kernel_rfl
def F19 (x0 : Value) (w : World) (K : Value → World → Prop) : Prop :=
  rdP x0 fun p1 => Calls Try.prog 31 #[(.pointer p1)] w fun e3 w2 => ∃ b4, e3 = .returned (.bool b4) ∧ (br (!b4) (K (.int .u32 0) w2) (drw w2 fun w5 => nn p1 fun a6 => ldI .u32 (a6.add 1) w5 fun n7 => nn p1 fun a8 => ldC (a8.add 2) w5 fun _ l9n _ => K (.int .u32 (IntKind.wrap .u32 ((IntKind.wrap .u32 (n7 + 1)) + (IntKind.wrap .u32 ((l9n : Int)))))) w5))
theorem F19_step (x0 : Value) (w : World) (K : Value → World → Prop) : (F19 x0 w K) = rsh [(0, (.one .ptr))] (args0 #[x0]) (fun t => vc Try.prog (orcOf []) [] F19_code (retQ Try.prog Try.f19 K) t w) := by kernel_rfl
theorem F19_ok {x0 : Value} {w : World} {K : Value → World → Prop} (h : F19 x0 w K) : Calls Try.prog 19 #[x0] w fun e w' => ∃ v, e = .returned v ∧ K v w' := by
  rw [F19_step] at h
  exact calls_of (c := F19_code) mixed Try.func19 rfl (nlt rfl) (vc_sound mixed (orcNil F19_code) F19_code [] rfl F19_code_ok _ _ _ (rsh_out h))

/-! ropewalk/ropewalklaw17.act -/
noncomputable def F20_code : Code := Try.f20.body.getD .skip
theorem F20_code_ok : okC Try.prog Try.f20.ntmps F20_code = true := by kernel_rfl
def F20 (x0 : Value) (x1 : Value) (x2 : Value) (w : World) (K : Value → World → Prop) : Prop :=
  rdP x0 fun p1 => rdP x1 fun p2 => exR70 fun s3 => x2 = s3.v ∧ (alc (.cells s3.c 71) w fun b4 w5 => alc (.cells ((R47.mk none 0 0 0 0)).c 48) w5 fun b6 w7 => ldI .i64 ((Addr.mk b4 0 none).add 0) w7 fun n8 => br (n8 == 1) (ldI .i64 ((Addr.mk b4 0 none).add 1) w7 fun n9 => ldR40 ((Addr.mk b4 0 none).add 3) w7 fun s10 => ldI .i64 ((Addr.mk b4 0 none).add 2) w7 fun n11 => Calls Try.prog 10 #[(.pointer p1), (.int .i64 n9), s10.v, (.int .i64 n11)] w7 fun e13 w12 => ∃ n14, ∃ n15, e13 = .returned (.tuple #[(.int .u32 n14), (.int .i64 n15)]) ∧ (ldI .i64 ((Addr.mk b4 0 none).add 1) w12 fun n16 => ldR40 ((Addr.mk b4 0 none).add 3) w12 fun s17 => ldI .i64 ((Addr.mk b4 0 none).add 2) w12 fun n18 => Calls Try.prog 41 #[(.pointer p2), (.int .i64 n16), s17.v, (.int .i64 n18)] w12 fun e20 w19 => ∃ n21, ∃ n22, e20 = .returned (.tuple #[(.int .u32 n21), (.int .i64 n22)]) ∧ (br (n14 == n21) (stcL (Addr.mk b6 0 none) 0 (R47.mk none 0 0 0 0).l w19 fun w23 => ldR47 (Addr.mk b6 0 none) w23 fun s24 => K (.tuple #[s24.v, (.bool (n15 == n22))]) w23) (stcL (Addr.mk b6 0 none) 0 (R47.mk none 0 0 0 0).l w19 fun w25 => ldR47 (Addr.mk b6 0 none) w25 fun s26 => K (.tuple #[s26.v, (.bool false)]) w25)))) (br (n8 == 2) (ldI .i64 ((Addr.mk b4 0 none).add 1) w7 fun n27 => ldI .i64 ((Addr.mk b4 0 none).add 2) w7 fun n28 => Calls Try.prog 24 #[(.pointer p1), (.int .i64 n27), (.int .i64 n28)] w7 fun e30 w29 => exR57 fun s31 => ∃ b32, ∃ n33, e30 = .returned (.tuple #[s31.v, (.bool b32), (.int .i64 n33)]) ∧ (alc (.cells ((R57.mk 0 0 0 0 0 false 0 0 0 0 false none 0 0 false false)).c 58) w29 fun b34 w35 => stcL (Addr.mk b34 0 none) 0 s31.l w35 fun w36 => ldI .i64 ((Addr.mk b4 0 none).add 1) w36 fun n37 => ldI .i64 ((Addr.mk b4 0 none).add 2) w36 fun n38 => Calls Try.prog 42 #[(.pointer p2), (.int .i64 n37), (.int .i64 n38)] w36 fun e40 w39 => exR57 fun s41 => ∃ b42, ∃ n43, e40 = .returned (.tuple #[s41.v, (.bool b42), (.int .i64 n43)]) ∧ (alc (.cells ((R57.mk 0 0 0 0 0 false 0 0 0 0 false none 0 0 false false)).c 58) w39 fun b44 w45 => stcL (Addr.mk b44 0 none) 0 s41.l w45 fun w46 => ldR57 (Addr.mk b34 0 none) w46 fun s47 => ldR57 (Addr.mk b44 0 none) w46 fun s48 => Calls Try.prog 43 #[s47.v, s48.v] w46 fun e50 w49 => ∃ b51, e50 = .returned (.bool b51) ∧ (br b51 (br (b32 == b42) (stcL (Addr.mk b6 0 none) 0 (R47.mk none 0 0 0 0).l w49 fun w52 => ldR47 (Addr.mk b6 0 none) w52 fun s53 => K (.tuple #[s53.v, (.bool (n33 == n43))]) w52) (stcL (Addr.mk b6 0 none) 0 (R47.mk none 0 0 0 0).l w49 fun w54 => ldR47 (Addr.mk b6 0 none) w54 fun s55 => K (.tuple #[s55.v, (.bool false)]) w54)) (stcL (Addr.mk b6 0 none) 0 (R47.mk none 0 0 0 0).l w49 fun w56 => ldR47 (Addr.mk b6 0 none) w56 fun s57 => K (.tuple #[s57.v, (.bool false)]) w56))))) (br (n8 == 3) (ldR30 ((Addr.mk b4 0 none).add 11) w7 fun s58 => alc (.cells ((R30.mk 0 0 0 0 0 0 0 0 0 0 none 0 0 none 0 0 none 0 0 none 0 0 none 0 0)).c 31) w7 fun b59 w60 => stcL (Addr.mk b59 0 none) 0 s58.l w60 fun w61 => drw w61 fun w62 => nn p2 fun a63 => ldI .u32 (a63.add 1) w62 fun n64 => ldI .u32 ((Addr.mk b4 0 none).add 10) w62 fun n65 => Calls Try.prog 21 #[(.int .u32 n64), (.int .u32 n65)] w62 fun e67 w66 => ∃ n68, e67 = .returned (.int .u32 n68) ∧ (stc ((Addr.mk b59 0 none).add 2) (.int .u32 n68) w66 fun w69 => ldR30 (Addr.mk b59 0 none) w69 fun s70 => ldI .i64 ((Addr.mk b4 0 none).add 2) w69 fun n71 => Calls Try.prog 13 #[(.pointer p1), s70.v, (.int .i64 n71)] w69 fun e73 w72 => exR47 fun s74 => ∃ n75, e73 = .returned (.tuple #[s74.v, (.int .i64 n75)]) ∧ (alc (.cells ((R47.mk none 0 0 0 0)).c 48) w72 fun b76 w77 => stcL (Addr.mk b76 0 none) 0 s74.l w77 fun w78 => ldR30 (Addr.mk b59 0 none) w78 fun s79 => ldI .i64 ((Addr.mk b4 0 none).add 2) w78 fun n80 => Calls Try.prog 44 #[(.pointer p2), s79.v, (.int .i64 n80)] w78 fun e82 w81 => exR47 fun s83 => ∃ n84, e82 = .returned (.tuple #[s83.v, (.int .i64 n84)]) ∧ (alc (.cells ((R47.mk none 0 0 0 0)).c 48) w81 fun b85 w86 => stcL (Addr.mk b85 0 none) 0 s83.l w86 fun w87 => drw w87 fun w88 => ∃ w89 : World, Pres w89 w88 ∧ (ldR47 (Addr.mk b76 0 none) w89 fun s90 => ldR47 (Addr.mk b76 0 none) w88 fun s91 => ldR47 (Addr.mk b85 0 none) w88 fun s92 => Calls Try.prog 45 #[s91.v, s92.v] w88 fun e94 w93 => ∃ b95, e94 = .returned (.bool b95) ∧ (Pres w89 w93 ∧ (br b95 (stcL (Addr.mk b6 0 none) 0 s90.l w93 fun w96 => ldR47 (Addr.mk b6 0 none) w96 fun s97 => K (.tuple #[s97.v, (.bool (n75 == n84))]) w96) (stcL (Addr.mk b6 0 none) 0 s90.l w93 fun w98 => ldR47 (Addr.mk b6 0 none) w98 fun s99 => K (.tuple #[s99.v, (.bool false)]) w98)))))))) (br (n8 == 4) (ldI .i64 ((Addr.mk b4 0 none).add 1) w7 fun n100 => Calls Try.prog 25 #[(.pointer p1), (.int .i64 n100)] w7 fun e102 w101 => ∃ n103, ∃ n104, e102 = .returned (.tuple #[(.int .i64 n103), (.int .i64 n104)]) ∧ (ldI .i64 ((Addr.mk b4 0 none).add 1) w101 fun n105 => Calls Try.prog 46 #[(.pointer p2), (.int .i64 n105)] w101 fun e107 w106 => ∃ n108, ∃ n109, e107 = .returned (.tuple #[(.int .i64 n108), (.int .i64 n109)]) ∧ (br (n103 == n108) (stcL (Addr.mk b6 0 none) 0 (R47.mk none 0 0 0 0).l w106 fun w110 => ldR47 (Addr.mk b6 0 none) w110 fun s111 => K (.tuple #[s111.v, (.bool (n104 == n109))]) w110) (stcL (Addr.mk b6 0 none) 0 (R47.mk none 0 0 0 0).l w106 fun w112 => ldR47 (Addr.mk b6 0 none) w112 fun s113 => K (.tuple #[s113.v, (.bool false)]) w112)))) (stcL (Addr.mk b6 0 none) 0 (R47.mk none 0 0 0 0).l w7 fun w114 => ldR47 (Addr.mk b6 0 none) w114 fun s115 => K (.tuple #[s115.v, (.bool true)]) w114)))))
theorem F20_step (x0 : Value) (x1 : Value) (x2 : Value) (w : World) (K : Value → World → Prop) : (F20 x0 x1 x2 w K) = rsh [(0, (.one .ptr)), (1, (.one .ptr)), (2, (.agg [(.int .i64), (.int .i64), (.int .i64), (.int .u16), (.int .u16), (.int .u32), .bool, .slc, .bool, .bool, (.int .u32), (.int .u8), (.int .u8), (.int .u32), (.int .u16), (.int .u16), (.int .u32), (.int .u32), (.int .u32), (.int .u16), (.int .u16), .slc, .slc, .slc, .slc, .slc]))] (args0 #[x0, x1, x2]) (fun t => vc Try.prog (orcOf []) [] F20_code (retQ Try.prog Try.f20 K) t w) := by kernel_rfl
theorem F20_ok {x0 x1 x2 : Value} {w : World} {K : Value → World → Prop} (h : F20 x0 x1 x2 w K) : Calls Try.prog 20 #[x0, x1, x2] w fun e w' => ∃ v, e = .returned v ∧ K v w' := by
  rw [F20_step] at h
  exact calls_of (c := F20_code) mixed Try.func20 rfl (nlt rfl) (vc_sound mixed (orcNil F20_code) F20_code [] rfl F20_code_ok _ _ _ (rsh_out h))

/-! ropewalk/ropewalkref01.Add -/
noncomputable def F21_code : Code := Try.f21.body.getD .skip
theorem F21_code_ok : okC Try.prog Try.f21.ntmps F21_code = true := by kernel_rfl
def F21 (x0 : Value) (x1 : Value) (w : World) (K : Value → World → Prop) : Prop :=
  rdI .u32 x0 fun n1 => rdI .u32 x1 fun n2 => K (.int .u32 (IntKind.wrap .u32 ((Int.tmod (IntKind.wrap .u64 ((IntKind.wrap .u64 (n1)) + (IntKind.wrap .u64 (n2)))) 4294967296)))) w
theorem F21_step (x0 : Value) (x1 : Value) (w : World) (K : Value → World → Prop) : (F21 x0 x1 w K) = rsh [(0, (.one (.int .u32))), (1, (.one (.int .u32)))] (args0 #[x0, x1]) (fun t => vc Try.prog (orcOf []) [] F21_code (retQ Try.prog Try.f21 K) t w) := by kernel_rfl
theorem F21_ok {x0 x1 : Value} {w : World} {K : Value → World → Prop} (h : F21 x0 x1 w K) : Calls Try.prog 21 #[x0, x1] w fun e w' => ∃ v, e = .returned v ∧ K v w' := by
  rw [F21_step] at h
  exact calls_of (c := F21_code) mixed Try.func21 rfl (nlt rfl) (vc_sound mixed (orcNil F21_code) F21_code [] rfl F21_code_ok _ _ _ (rsh_out h))

/-! ropewalk/ropewalkref17.AllSame -/
noncomputable def F22_code : Code := Try.f22.body.getD .skip
theorem F22_code_ok : okC Try.prog Try.f22.ntmps F22_code = true := by kernel_rfl
def F22_1C (K0 : World → Prop) (Kr : Value → World → Prop) : Post := fun o t w => match o with | .normal => False | .exit i => (match Nat.beq i 0 with | true => K0  w | false => False) | .ret => Kr (t 4) w
def F22_1B (R : Value → Value → Value → World → Prop) (K0 : World → Prop) (Kr : Value → World → Prop) (x0 : Value) (x1 : Value) (x5 : Value) (w : World) : Prop :=
  rdC x0 fun l1a l1n l1c => rdC x1 fun l2a l2n l2c => rdI .i64 x5 fun n3 => br (decide ((n3 : Int) < (l1n : Int))) (drw w fun w4 => ixS 14 l1a l1n n3 fun a5 => ldR57 a5 w4 fun s6 => ixS 14 l2a l2n n3 fun a7 => ldR57 a7 w4 fun s8 => Calls Try.prog 43 #[s6.v, s8.v] w4 fun e10 w9 => ∃ b11, e10 = .returned (.bool b11) ∧ (br (!b11) (Kr (.bool false) w9) (R (.slice l1a l1n l1c) (.slice l2a l2n l2c) (.int .i64 (IntKind.wrap .i64 (n3 + 1))) w9))) (K0 w)
def F22_1 (K0 : World → Prop) (Kr : Value → World → Prop) : Nat → Value → Value → Value → World → Prop
  | 0 => fun _ _ _ _ => False
  | n + 1 => F22_1B (F22_1 K0 Kr n) K0 Kr
def F22_1O (Q : Post) (t : Tm) (w : World) : Prop := ∃ n, F22_1 (fun w => ∀ g, rsh [] (upds g []) fun t => Q (.exit 0) t w) (fun y4 w => ∀ g, rsh [(4, (.one .bool))] (upds g [(4, y4)]) fun t => Q .ret t w) n (t 0) (t 1) (t 5) w
theorem F22_1_step (K0 : World → Prop) (Kr : Value → World → Prop) (n : Nat) (t : Tm) (w : World) : (F22_1 K0 Kr (n + 1) (t 0) (t 1) (t 5) w) = rsh [(0, (.one .slc)), (1, (.one .slc)), (5, (.one (.int .i64)))] t (fun t => vc Try.prog (orcOf []) [0, 0, 1, 0, 1, 1] (getAt F22_code [0, 0, 1, 0, 1, 1]) (fun o t w => match o with | .normal => F22_1 K0 Kr n (t 0) (t 1) (t 5) w | .exit i => F22_1C K0 Kr (.exit i) t w | .ret => F22_1C K0 Kr .ret t w) t w) := by kernel_rfl
theorem F22_1_ok : ∀ Q t w, F22_1O Q t w → W Try.prog Try.f22.ntmps (getAt F22_code [0, 1, 0, 1, 1]) Q t w := by
  intro Q t w ⟨n, h⟩
  refine (W_loop (P := Try.prog) (b := getAt F22_code [0, 0, 1, 0, 1, 1]) (Q := F22_1C (fun w => ∀ g, rsh [] (upds g []) fun t => Q (.exit 0) t w) (fun y4 w => ∀ g, rsh [(4, (.one .bool))] (upds g [(4, y4)]) fun t => Q .ret t w)) (G := fun n t w => F22_1 (fun w => ∀ g, rsh [] (upds g []) fun t => Q (.exit 0) t w) (fun y4 w => ∀ g, rsh [(4, (.one .bool))] (upds g [(4, y4)]) fun t => Q .ret t w) n (t 0) (t 1) (t 5) w) (fun _ _ h => h) (fun n t w h => ?_) n t w h).mono ?_
  · rw [F22_1_step] at h
    exact vc_sound mixed (orcNil F22_code) _ _ rfl (okC_at F22_code_ok [0, 0, 1, 0, 1, 1]) _ _ _ (rsh_out h)
  · intro o t w q
    cases o with
    | normal => exact q.elim
    | exit i =>
      unfold F22_1C at q
      simp only at q
      split at q
      · rename_i hi
        rw [nbeq] at hi
        subst hi
        exact out_ok [] q
      · exact q.elim
    | ret => exact out_ok [4] q
def F22 (x0 : Value) (x1 : Value) (w : World) (K : Value → World → Prop) : Prop :=
  rdC x0 fun l1a l1n l1c => rdC x1 fun l2a l2n l2c => br ((l1n : Int) != (l2n : Int)) (K (.bool false) w) (∃ k10 : Nat, F22_1 (fun w4 => ∀ _g5 : Tm, K (.bool true) w4) (fun y4_5 w7 => ∀ _g8 : Tm, rdB y4_5 fun b9 => K (.bool b9) w7) k10 (.slice l1a l1n l1c) (.slice l2a l2n l2c) (.int .i64 0) w)
theorem F22_step (x0 : Value) (x1 : Value) (w : World) (K : Value → World → Prop) : (F22 x0 x1 w K) = rsh [(0, (.one .slc)), (1, (.one .slc))] (args0 #[x0, x1]) (fun t => vc Try.prog (orcOf [([0, 1, 0, 1, 1], F22_1O)]) [] F22_code (retQ Try.prog Try.f22 K) t w) := by kernel_rfl
theorem F22_ok {x0 x1 : Value} {w : World} {K : Value → World → Prop} (h : F22 x0 x1 w K) : Calls Try.prog 22 #[x0, x1] w fun e w' => ∃ v, e = .returned v ∧ K v w' := by
  rw [F22_step] at h
  exact calls_of (c := F22_code) mixed Try.func22 rfl (nlt rfl) (vc_sound mixed (orcCons (π := [0, 1, 0, 1, 1]) F22_1_ok (orcNil F22_code)) F22_code [] rfl F22_code_ok _ _ _ (rsh_out h))

/-! ropewalk/ropewalklaw17.same -/
noncomputable def F23_code : Code := Try.f23.body.getD .skip
theorem F23_code_ok : okC Try.prog Try.f23.ntmps F23_code = true := by kernel_rfl
def F23_1C (K0 : World → Prop) (Kr : Value → World → Prop) : Post := fun o t w => match o with | .normal => False | .exit i => (match Nat.beq i 0 with | true => K0  w | false => False) | .ret => Kr (t 4) w
def F23_1B (R : Value → Value → Value → World → Prop) (K0 : World → Prop) (Kr : Value → World → Prop) (x0 : Value) (x1 : Value) (x11 : Value) (w : World) : Prop :=
  rdP x0 fun p1 => rdP x1 fun p2 => rdI .i64 x11 fun n3 => nn p2 fun a4 => ldI .i64 (a4.add 0) w fun n5 => br (decide ((n3 : Int) ≤ n5)) (Calls Try.prog 16 #[(.pointer p1), (.int .i64 n3)] w fun e7 w6 => exR57 fun s8 => ∃ b9, e7 = .returned (.tuple #[s8.v, (.bool b9)]) ∧ (alc (.cells ((R57.mk 0 0 0 0 0 false 0 0 0 0 false none 0 0 false false)).c 58) w6 fun b10 w11 => stcL (Addr.mk b10 0 none) 0 s8.l w11 fun w12 => Calls Try.prog 50 #[(.pointer p2), (.int .i64 n3)] w12 fun e14 w13 => exR57 fun s15 => ∃ b16, e14 = .returned (.tuple #[s15.v, (.bool b16)]) ∧ (alc (.cells ((R57.mk 0 0 0 0 0 false 0 0 0 0 false none 0 0 false false)).c 58) w13 fun b17 w18 => stcL (Addr.mk b17 0 none) 0 s15.l w18 fun w19 => ldR57 (Addr.mk b10 0 none) w19 fun s20 => ldR57 (Addr.mk b17 0 none) w19 fun s21 => Calls Try.prog 43 #[s20.v, s21.v] w19 fun e23 w22 => ∃ b24, e23 = .returned (.bool b24) ∧ (br (!b24) (Kr (.bool false) w22) (br (!(b9 == b16)) (Kr (.bool false) w22) (Calls Try.prog 27 #[(.pointer p1), (.int .i64 n3)] w22 fun e26 w25 => ∃ n27, e26 = .returned (.int .i64 n27) ∧ (Calls Try.prog 51 #[(.pointer p2), (.int .i64 n3)] w25 fun e29 w28 => ∃ n30, e29 = .returned (.int .i64 n30) ∧ (br (n27 != n30) (Kr (.bool false) w28) (R (.pointer p1) (.pointer p2) (.int .i64 (IntKind.wrap .i64 (n3 + 1))) w28))))))))) (K0 w)
def F23_1 (K0 : World → Prop) (Kr : Value → World → Prop) : Nat → Value → Value → Value → World → Prop
  | 0 => fun _ _ _ _ => False
  | n + 1 => F23_1B (F23_1 K0 Kr n) K0 Kr
def F23_1O (Q : Post) (t : Tm) (w : World) : Prop := ∃ n, F23_1 (fun w => ∀ g, rsh [] (upds g []) fun t => Q (.exit 0) t w) (fun y4 w => ∀ g, rsh [(4, (.one .bool))] (upds g [(4, y4)]) fun t => Q .ret t w) n (t 0) (t 1) (t 11) w
theorem F23_1_step (K0 : World → Prop) (Kr : Value → World → Prop) (n : Nat) (t : Tm) (w : World) : (F23_1 K0 Kr (n + 1) (t 0) (t 1) (t 11) w) = rsh [(0, (.one .ptr)), (1, (.one .ptr)), (11, (.one (.int .i64)))] t (fun t => vc Try.prog (orcOf []) [0, 0, 1, 0, 1, 1, 1, 1] (getAt F23_code [0, 0, 1, 0, 1, 1, 1, 1]) (fun o t w => match o with | .normal => F23_1 K0 Kr n (t 0) (t 1) (t 11) w | .exit i => F23_1C K0 Kr (.exit i) t w | .ret => F23_1C K0 Kr .ret t w) t w) := by kernel_rfl
theorem F23_1_ok : ∀ Q t w, F23_1O Q t w → W Try.prog Try.f23.ntmps (getAt F23_code [0, 1, 0, 1, 1, 1, 1]) Q t w := by
  intro Q t w ⟨n, h⟩
  refine (W_loop (P := Try.prog) (b := getAt F23_code [0, 0, 1, 0, 1, 1, 1, 1]) (Q := F23_1C (fun w => ∀ g, rsh [] (upds g []) fun t => Q (.exit 0) t w) (fun y4 w => ∀ g, rsh [(4, (.one .bool))] (upds g [(4, y4)]) fun t => Q .ret t w)) (G := fun n t w => F23_1 (fun w => ∀ g, rsh [] (upds g []) fun t => Q (.exit 0) t w) (fun y4 w => ∀ g, rsh [(4, (.one .bool))] (upds g [(4, y4)]) fun t => Q .ret t w) n (t 0) (t 1) (t 11) w) (fun _ _ h => h) (fun n t w h => ?_) n t w h).mono ?_
  · rw [F23_1_step] at h
    exact vc_sound mixed (orcNil F23_code) _ _ rfl (okC_at F23_code_ok [0, 0, 1, 0, 1, 1, 1, 1]) _ _ _ (rsh_out h)
  · intro o t w q
    cases o with
    | normal => exact q.elim
    | exit i =>
      unfold F23_1C at q
      simp only at q
      split at q
      · rename_i hi
        rw [nbeq] at hi
        subst hi
        exact out_ok [] q
      · exact q.elim
    | ret => exact out_ok [4] q
def F23_2C (Kr : Value → World → Prop) : Post := fun o t w => match o with | .normal => False | .exit _ => (False) | .ret => Kr (t 4) w
def F23_2 (Kr : Value → World → Prop) (x0 : Value) (x1 : Value) (w : World) : Prop :=
  rdP x0 fun p1 => rdP x1 fun p2 => ∃ k10 : Nat, F23_1 (fun w4 => ∀ _g5 : Tm, Kr (.bool true) w4) (fun y4_5 w7 => ∀ _g8 : Tm, rdB y4_5 fun b9 => Kr (.bool b9) w7) k10 (.pointer p1) (.pointer p2) (.int .i64 (-1)) w
def F23_2O (Q : Post) (t : Tm) (w : World) : Prop := F23_2 (fun y4 w => ∀ g, rsh [(4, (.one .bool))] (upds g [(4, y4)]) fun t => Q .ret t w) (t 0) (t 1) w
theorem F23_2_step (Kr : Value → World → Prop) (t : Tm) (w : World) : (F23_2 Kr (t 0) (t 1) w) = rsh [(0, (.one .ptr)), (1, (.one .ptr))] t (fun t => vc Try.prog (orcOf [([0, 1, 0, 1, 1, 1, 1], F23_1O)]) [1, 1, 1, 1] (getAt F23_code [1, 1, 1, 1]) (F23_2C Kr) t w) := by kernel_rfl
theorem F23_2_ok : ∀ Q t w, F23_2O Q t w → W Try.prog Try.f23.ntmps (getAt F23_code [1, 1, 1, 1]) Q t w := by
  intro Q t w h
  unfold F23_2O at h
  rw [F23_2_step] at h
  refine (vc_sound mixed (orcCons (π := [0, 1, 0, 1, 1, 1, 1]) F23_1_ok (orcNil F23_code)) _ _ rfl (okC_at F23_code_ok [1, 1, 1, 1]) _ _ _ (rsh_out h)).mono ?_
  intro o t w q
  cases o with
  | normal => exact q.elim
  | exit i => exact q.elim
  | ret => exact out_ok [4] q
def F23 (x0 : Value) (x1 : Value) (w : World) (K : Value → World → Prop) : Prop :=
  rdP x0 fun p1 => rdP x1 fun p2 => Calls Try.prog 26 #[(.pointer p1)] w fun e4 w3 => ∃ n5, exR57 fun s6 => ∃ b7, e4 = .returned (.tuple #[(.int .i64 n5), s6.v, (.bool b7)]) ∧ (alc (.cells ((R57.mk 0 0 0 0 0 false 0 0 0 0 false none 0 0 false false)).c 58) w3 fun b8 w9 => stcL (Addr.mk b8 0 none) 0 s6.l w9 fun w10 => Calls Try.prog 47 #[(.pointer p2)] w10 fun e12 w11 => ∃ n13, exR57 fun s14 => ∃ b15, e12 = .returned (.tuple #[(.int .i64 n13), s14.v, (.bool b15)]) ∧ (alc (.cells ((R57.mk 0 0 0 0 0 false 0 0 0 0 false none 0 0 false false)).c 58) w11 fun b16 w17 => stcL (Addr.mk b16 0 none) 0 s14.l w17 fun w18 => drw w18 fun w19 => ∃ w20 : World, Pres w20 w19 ∧ (br (n5 != n13) (K (.bool false) w19) (ldR57 (Addr.mk b8 0 none) w19 fun s21 => ldR57 (Addr.mk b16 0 none) w19 fun s22 => Calls Try.prog 43 #[s21.v, s22.v] w19 fun e24 w23 => ∃ b25, e24 = .returned (.bool b25) ∧ (Pres w20 w23 ∧ (br (!b25) (K (.bool false) w23) (br (!(b7 == b15)) (K (.bool false) w23) (nn p2 fun a26 => ldI .u32 (a26.add 1) w20 fun n27 => Calls Try.prog 12 #[(.pointer p1)] w23 fun e29 w28 => ∃ n30, e29 = .returned (.int .u32 n30) ∧ (Pres w20 w28 ∧ (br (n30 != n27) (K (.bool false) w28) (Calls Try.prog 19 #[(.pointer p1)] w28 fun e32 w31 => ∃ n33, e32 = .returned (.int .u32 n33) ∧ (Pres w20 w31 ∧ (Calls Try.prog 48 #[(.pointer p2)] w31 fun e35 w34 => ∃ n36, e35 = .returned (.int .u32 n36) ∧ (Pres w20 w34 ∧ (br (n33 != n36) (K (.bool false) w34) (nn p2 fun a37 => ldC (a37.add 2) w20 fun _ l38n _ => Calls Try.prog 18 #[(.pointer p1)] w34 fun e40 w39 => ∃ n41, e40 = .returned (.int .i64 n41) ∧ (Pres w20 w39 ∧ (br (n41 != (l38n : Int)) (K (.bool false) w39) (Calls Try.prog 28 #[(.pointer p1)] w39 fun e43 w42 => ∃ n44, e43 = .returned (.int .i64 n44) ∧ (Pres w20 w42 ∧ (Calls Try.prog 49 #[(.pointer p2)] w42 fun e46 w45 => ∃ n47, e46 = .returned (.int .i64 n47) ∧ (Pres w20 w45 ∧ (br (n44 != n47) (K (.bool false) w45) (nn p2 fun a48 => ldC (a48.add 2) w20 fun l49a l49n l49c => Calls Try.prog 15 #[(.pointer p1)] w45 fun e51 w50 => ∃ l52a l52n l52c, e51 = .returned (.slice l52a l52n l52c) ∧ (Pres w20 w50 ∧ (Calls Try.prog 22 #[(.slice l52a l52n l52c), (.slice l49a l49n l49c)] w50 fun e54 w53 => ∃ b55, e54 = .returned (.bool b55) ∧ (br (!b55) (K (.bool false) w53) (F23_2 (fun y4_55 w57 => ∀ _g58 : Tm, rdB y4_55 fun b59 => K (.bool b59) w57) (.pointer p1) (.pointer p2) w53))))))))))))))))))))))))))))
theorem F23_step (x0 : Value) (x1 : Value) (w : World) (K : Value → World → Prop) : (F23 x0 x1 w K) = rsh [(0, (.one .ptr)), (1, (.one .ptr))] (args0 #[x0, x1]) (fun t => vc Try.prog (orcOf [([0, 1, 0, 1, 1, 1, 1], F23_1O), ([1, 1, 1, 1], F23_2O)]) [] F23_code (retQ Try.prog Try.f23 K) t w) := by kernel_rfl
theorem F23_ok {x0 x1 : Value} {w : World} {K : Value → World → Prop} (h : F23 x0 x1 w K) : Calls Try.prog 23 #[x0, x1] w fun e w' => ∃ v, e = .returned v ∧ K v w' := by
  rw [F23_step] at h
  exact calls_of (c := F23_code) mixed Try.func23 rfl (nlt rfl) (vc_sound mixed (orcCons (π := [0, 1, 0, 1, 1, 1, 1]) F23_1_ok (orcCons (π := [1, 1, 1, 1]) F23_2_ok (orcNil F23_code))) F23_code [] rfl F23_code_ok _ _ _ (rsh_out h))

/-! (*ropewalk/outbox.Box).Again -/
noncomputable def F24_code : Code := Try.f24.body.getD .skip
theorem F24_code_ok : okC Try.prog Try.f24.ntmps F24_code = true := by kernel_rfl
def F24 (x0 : Value) (x1 : Value) (x2 : Value) (w : World) (K : Value → World → Prop) : Prop :=
  rdP x0 fun p1 => rdI .i64 x1 fun n2 => rdI .i64 x2 fun n3 => alc (.cells ((R57.mk 0 0 0 0 0 false 0 0 0 0 false none 0 0 false false)).c 58) w fun b4 w5 => Calls Try.prog 29 #[(.pointer p1), (.int .i64 n2), (.int .i64 n3)] w5 fun e7 w6 => ∃ n8, e7 = .returned (.int .i64 n8) ∧ (br (n8 != 0) (stcL (Addr.mk b4 0 none) 0 (R57.mk 0 0 0 0 0 false 0 0 0 0 false none 0 0 false false).l w6 fun w9 => ldR57 (Addr.mk b4 0 none) w9 fun s10 => K (.tuple #[s10.v, (.bool false), (.int .i64 n8)]) w9) (Calls Try.prog 39 #[(.pointer p1), (.func (.func 52) #[] #[])] w6 fun e12 w11 => ∃ p13, e12 = .returned (.pointer p13) ∧ (br (Option.isNone p13) (stcL (Addr.mk b4 0 none) 0 (R57.mk 0 0 0 0 0 false 0 0 0 0 false none 0 0 false false).l w11 fun w14 => ldR57 (Addr.mk b4 0 none) w14 fun s15 => K (.tuple #[s15.v, (.bool false), (.int .i64 0)]) w14) (nn p13 fun a16 => stc ((a16.add 0).add 6) (.int .i64 1) w11 fun w17 => nn p13 fun a18 => stc ((a18.add 0).add 1) (.int .i64 n2) w17 fun w19 => nn p13 fun a20 => stc ((a20.add 0).add 3) (.int .i64 n3) w19 fun w21 => nn p13 fun a22 => stc ((a22.add 0).add 4) (.int .i64 0) w21 fun w23 => nn p13 fun a24 => ldI .i64 ((a24.add 0).add 2) w23 fun n25 => nn p13 fun a26 => stc ((a26.add 0).add 2) (.int .i64 (IntKind.wrap .i64 (n25 + 1))) w23 fun w27 => nn p13 fun a28 => ldR57 (a28.add 0) w27 fun s29 => Calls Try.prog 30 #[s29.v] w27 fun e31 w30 => exR57 fun s32 => e31 = .returned s32.v ∧ (stcL (Addr.mk b4 0 none) 0 s32.l w30 fun w33 => ldR57 (Addr.mk b4 0 none) w33 fun s34 => K (.tuple #[s34.v, (.bool true), (.int .i64 0)]) w33)))))
theorem F24_step (x0 : Value) (x1 : Value) (x2 : Value) (w : World) (K : Value → World → Prop) : (F24 x0 x1 x2 w K) = rsh [(0, (.one .ptr)), (1, (.one (.int .i64))), (2, (.one (.int .i64)))] (args0 #[x0, x1, x2]) (fun t => vc Try.prog (orcOf []) [] F24_code (retQ Try.prog Try.f24 K) t w) := by kernel_rfl
theorem F24_ok {x0 x1 x2 : Value} {w : World} {K : Value → World → Prop} (h : F24 x0 x1 x2 w K) : Calls Try.prog 24 #[x0, x1, x2] w fun e w' => ∃ v, e = .returned v ∧ K v w' := by
  rw [F24_step] at h
  exact calls_of (c := F24_code) mixed Try.func24 rfl (nlt rfl) (vc_sound mixed (orcNil F24_code) F24_code [] rfl F24_code_ok _ _ _ (rsh_out h))

/-! (*ropewalk/outbox.Box).Timeout -/
noncomputable def F25_code : Code := Try.f25.body.getD .skip
theorem F25_code_ok : okC Try.prog Try.f25.ntmps F25_code = true := by kernel_rfl
def F25_1C (K0 : Value → World → Prop) : Post := fun o t w => match o with | .normal => False | .exit i => (match Nat.beq i 0 with | true => K0 (t 7) w | false => False) | .ret => False
def F25_1B (R : Value → Value → Value → Value → Value → World → Prop) (K0 : Value → World → Prop) (x1 : Value) (x7 : Value) (x23 : Value) (x24 : Value) (x25 : Value) (w : World) : Prop :=
  rdI .i64 x1 fun n1 => rdI .i64 x7 fun n2 => rdC x23 fun l3a l3n l3c => rdI .i64 x24 fun n4 => rdI .i64 x25 fun n5 => br (decide ((n5 : Int) < n4)) (ixS 1 l3a l3n n5 fun a6 => ldP a6 w fun p7 => Calls Try.prog 40 #[(.int .i64 n1)] w fun e9 w8 => ∃ v10, e9 = .returned v10 ∧ (callV Try.prog v10 #[(.pointer p7)] w8 (.one (.one .bool)) fun r12 w11 => ∃ b13, r12 = (.bool b13) ∧ (br b13 (Calls Try.prog 54 #[(.pointer p7)] w11 fun e15 w14 => e15 = .returned (.tuple #[]) ∧ (R (.int .i64 n1) (.int .i64 n2) (.slice l3a l3n l3c) (.int .i64 n4) (.int .i64 (IntKind.wrap .i64 (n5 + 1))) w14)) (R (.int .i64 n1) (.int .i64 n2) (.slice l3a l3n l3c) (.int .i64 n4) (.int .i64 (IntKind.wrap .i64 (n5 + 1))) w11)))) (K0 (.int .i64 n2) w)
def F25_1 (K0 : Value → World → Prop) : Nat → Value → Value → Value → Value → Value → World → Prop
  | 0 => fun _ _ _ _ _ _ => False
  | n + 1 => F25_1B (F25_1 K0 n) K0
def F25_1O (Q : Post) (t : Tm) (w : World) : Prop := ∃ n, F25_1 (fun y7 w => ∀ g, rsh [(7, (.one (.int .i64)))] (upds g [(7, y7)]) fun t => Q (.exit 0) t w) n (t 1) (t 7) (t 23) (t 24) (t 25) w
theorem F25_1_step (K0 : Value → World → Prop) (n : Nat) (t : Tm) (w : World) : (F25_1 K0 (n + 1) (t 1) (t 7) (t 23) (t 24) (t 25) w) = rsh [(1, (.one (.int .i64))), (7, (.one (.int .i64))), (23, (.one .slc)), (24, (.one (.int .i64))), (25, (.one (.int .i64)))] t (fun t => vc Try.prog (orcOf []) [0, 0, 1, 0, 1, 1, 1] (getAt F25_code [0, 0, 1, 0, 1, 1, 1]) (fun o t w => match o with | .normal => F25_1 K0 n (t 1) (t 7) (t 23) (t 24) (t 25) w | .exit i => F25_1C K0 (.exit i) t w | .ret => F25_1C K0 .ret t w) t w) := by kernel_rfl
theorem F25_1_ok : ∀ Q t w, F25_1O Q t w → W Try.prog Try.f25.ntmps (getAt F25_code [0, 1, 0, 1, 1, 1]) Q t w := by
  intro Q t w ⟨n, h⟩
  refine (W_loop (P := Try.prog) (b := getAt F25_code [0, 0, 1, 0, 1, 1, 1]) (Q := F25_1C (fun y7 w => ∀ g, rsh [(7, (.one (.int .i64)))] (upds g [(7, y7)]) fun t => Q (.exit 0) t w)) (G := fun n t w => F25_1 (fun y7 w => ∀ g, rsh [(7, (.one (.int .i64)))] (upds g [(7, y7)]) fun t => Q (.exit 0) t w) n (t 1) (t 7) (t 23) (t 24) (t 25) w) (fun _ _ h => h) (fun n t w h => ?_) n t w h).mono ?_
  · rw [F25_1_step] at h
    exact vc_sound mixed (orcNil F25_code) _ _ rfl (okC_at F25_code_ok [0, 0, 1, 0, 1, 1, 1]) _ _ _ (rsh_out h)
  · intro o t w q
    cases o with
    | normal => exact q.elim
    | exit i =>
      unfold F25_1C at q
      simp only at q
      split at q
      · rename_i hi
        rw [nbeq] at hi
        subst hi
        exact out_ok [7] q
      · exact q.elim
    | ret => exact q.elim
def F25 (x0 : Value) (x1 : Value) (w : World) (K : Value → World → Prop) : Prop :=
  rdP x0 fun p1 => rdI .i64 x1 fun n2 => Calls Try.prog 29 #[(.pointer p1), (.int .i64 n2), (.int .i64 0)] w fun e4 w3 => ∃ n5, e4 = .returned (.int .i64 n5) ∧ (br (n5 != 0) (K (.tuple #[(.int .i64 0), (.int .i64 n5)]) w3) (Calls Try.prog 40 #[(.int .i64 n2)] w3 fun e7 w6 => ∃ v8, e7 = .returned v8 ∧ (Calls Try.prog 53 #[(.pointer p1), v8] w6 fun e10 w9 => ∃ n11, e10 = .returned (.int .i64 n11) ∧ (nn p1 fun a12 => ldC (a12.add 2) w9 fun l13a l13n l13c => ∃ k18 : Nat, F25_1 (fun y7_13 w15 => ∀ _g16 : Tm, rdI .i64 y7_13 fun n17 => K (.tuple #[(.int .i64 n17), (.int .i64 0)]) w15) k18 (.int .i64 n2) (.int .i64 n11) (.slice l13a l13n l13c) (.int .i64 (l13n : Int)) (.int .i64 0) w9))))
theorem F25_step (x0 : Value) (x1 : Value) (w : World) (K : Value → World → Prop) : (F25 x0 x1 w K) = rsh [(0, (.one .ptr)), (1, (.one (.int .i64)))] (args0 #[x0, x1]) (fun t => vc Try.prog (orcOf [([0, 1, 0, 1, 1, 1], F25_1O)]) [] F25_code (retQ Try.prog Try.f25 K) t w) := by kernel_rfl
theorem F25_ok {x0 x1 : Value} {w : World} {K : Value → World → Prop} (h : F25 x0 x1 w K) : Calls Try.prog 25 #[x0, x1] w fun e w' => ∃ v, e = .returned v ∧ K v w' := by
  rw [F25_step] at h
  exact calls_of (c := F25_code) mixed Try.func25 rfl (nlt rfl) (vc_sound mixed (orcCons (π := [0, 1, 0, 1, 1, 1]) F25_1_ok (orcNil F25_code)) F25_code [] rfl F25_code_ok _ _ _ (rsh_out h))

/-! (*ropewalk/outbox.Box).Marked -/
noncomputable def F26_code : Code := Try.f26.body.getD .skip
theorem F26_code_ok : okC Try.prog Try.f26.ntmps F26_code = true := by kernel_rfl
def F26 (x0 : Value) (w : World) (K : Value → World → Prop) : Prop :=
  rdP x0 fun p1 => alc (.cells ((R57.mk 0 0 0 0 0 false 0 0 0 0 false none 0 0 false false)).c 58) w fun b2 w3 => Calls Try.prog 39 #[(.pointer p1), (.func (.func 52) #[] #[])] w3 fun e5 w4 => ∃ p6, e5 = .returned (.pointer p6) ∧ (Calls Try.prog 38 #[(.pointer p6)] w4 fun e8 w7 => exR57 fun s9 => ∃ b10, e8 = .returned (.tuple #[s9.v, (.bool b10)]) ∧ (alc (.cells ((R57.mk 0 0 0 0 0 false 0 0 0 0 false none 0 0 false false)).c 58) w7 fun b11 w12 => stcL (Addr.mk b11 0 none) 0 s9.l w12 fun w13 => drw w13 fun w14 => ∃ w15 : World, Pres w15 w14 ∧ (ldR57 (Addr.mk b11 0 none) w15 fun s16 => Calls Try.prog 53 #[(.pointer p1), (.func (.func 52) #[] #[])] w14 fun e18 w17 => ∃ n19, e18 = .returned (.int .i64 n19) ∧ (Pres w15 w17 ∧ (stcL (Addr.mk b2 0 none) 0 s16.l w17 fun w20 => ldR57 (Addr.mk b2 0 none) w20 fun s21 => K (.tuple #[(.int .i64 n19), s21.v, (.bool b10)]) w20)))))
theorem F26_step (x0 : Value) (w : World) (K : Value → World → Prop) : (F26 x0 w K) = rsh [(0, (.one .ptr))] (args0 #[x0]) (fun t => vc Try.prog (orcOf []) [] F26_code (retQ Try.prog Try.f26 K) t w) := by kernel_rfl
theorem F26_ok {x0 : Value} {w : World} {K : Value → World → Prop} (h : F26 x0 w K) : Calls Try.prog 26 #[x0] w fun e w' => ∃ v, e = .returned v ∧ K v w' := by
  rw [F26_step] at h
  exact calls_of (c := F26_code) mixed Try.func26 rfl (nlt rfl) (vc_sound mixed (orcNil F26_code) F26_code [] rfl F26_code_ok _ _ _ (rsh_out h))

/-! (*ropewalk/outbox.Box).Flying -/
noncomputable def F27_code : Code := Try.f27.body.getD .skip
theorem F27_code_ok : okC Try.prog Try.f27.ntmps F27_code = true := by kernel_rfl
def F27 (x0 : Value) (x1 : Value) (w : World) (K : Value → World → Prop) : Prop :=
  rdP x0 fun p1 => rdI .i64 x1 fun n2 => Calls Try.prog 40 #[(.int .i64 n2)] w fun e4 w3 => ∃ v5, e4 = .returned v5 ∧ (Calls Try.prog 53 #[(.pointer p1), v5] w3 fun e7 w6 => ∃ n8, e7 = .returned (.int .i64 n8) ∧ (K (.int .i64 n8) w6))
theorem F27_step (x0 : Value) (x1 : Value) (w : World) (K : Value → World → Prop) : (F27 x0 x1 w K) = rsh [(0, (.one .ptr)), (1, (.one (.int .i64)))] (args0 #[x0, x1]) (fun t => vc Try.prog (orcOf []) [] F27_code (retQ Try.prog Try.f27 K) t w) := by kernel_rfl
theorem F27_ok {x0 x1 : Value} {w : World} {K : Value → World → Prop} (h : F27 x0 x1 w K) : Calls Try.prog 27 #[x0, x1] w fun e w' => ∃ v, e = .returned v ∧ K v w' := by
  rw [F27_step] at h
  exact calls_of (c := F27_code) mixed Try.func27 rfl (nlt rfl) (vc_sound mixed (orcNil F27_code) F27_code [] rfl F27_code_ok _ _ _ (rsh_out h))

/-! (*ropewalk/outbox.Box).Total -/
noncomputable def F28_code : Code := Try.f28.body.getD .skip
theorem F28_code_ok : okC Try.prog Try.f28.ntmps F28_code = true := by kernel_rfl
def F28 (x0 : Value) (w : World) (K : Value → World → Prop) : Prop :=
  rdP x0 fun p1 => Calls Try.prog 53 #[(.pointer p1), (.func (.func 55) #[] #[])] w fun e3 w2 => ∃ n4, e3 = .returned (.int .i64 n4) ∧ (K (.int .i64 n4) w2)
theorem F28_step (x0 : Value) (w : World) (K : Value → World → Prop) : (F28 x0 w K) = rsh [(0, (.one .ptr))] (args0 #[x0]) (fun t => vc Try.prog (orcOf []) [] F28_code (retQ Try.prog Try.f28 K) t w) := by kernel_rfl
theorem F28_ok {x0 : Value} {w : World} {K : Value → World → Prop} (h : F28 x0 w K) : Calls Try.prog 28 #[x0] w fun e w' => ∃ v, e = .returned v ∧ K v w' := by
  rw [F28_step] at h
  exact calls_of (c := F28_code) mixed Try.func28 rfl (nlt rfl) (vc_sound mixed (orcNil F28_code) F28_code [] rfl F28_code_ok _ _ _ (rsh_out h))

/-! (*ropewalk/outbox.Box).asked -/
noncomputable def F29_code : Code := Try.f29.body.getD .skip
theorem F29_code_ok : okC Try.prog Try.f29.ntmps F29_code = true := by kernel_rfl
def F29 (x0 : Value) (x1 : Value) (x2 : Value) (w : World) (K : Value → World → Prop) : Prop :=
  rdP x0 fun p1 => rdI .i64 x1 fun n2 => rdI .i64 x2 fun n3 => Calls Try.prog 31 #[(.pointer p1)] w fun e5 w4 => ∃ b6, e5 = .returned (.bool b6) ∧ (br (!b6) (K (.int .i64 4) w4) (br (decide ((n2 : Int) < 0)) (K (.int .i64 90) w4) (nn p1 fun a7 => ldI .i64 (a7.add 0) w4 fun n8 => br (decide ((n2 : Int) ≥ n8)) (K (.int .i64 90) w4) (br (decide ((n3 : Int) < 0)) (K (.int .i64 1) w4) (br (decide ((n3 : Int) > 1099511627776)) (K (.int .i64 1) w4) (K (.int .i64 0) w4))))))
theorem F29_step (x0 : Value) (x1 : Value) (x2 : Value) (w : World) (K : Value → World → Prop) : (F29 x0 x1 x2 w K) = rsh [(0, (.one .ptr)), (1, (.one (.int .i64))), (2, (.one (.int .i64)))] (args0 #[x0, x1, x2]) (fun t => vc Try.prog (orcOf []) [] F29_code (retQ Try.prog Try.f29 K) t w) := by kernel_rfl
theorem F29_ok {x0 x1 x2 : Value} {w : World} {K : Value → World → Prop} (h : F29 x0 x1 x2 w K) : Calls Try.prog 29 #[x0, x1, x2] w fun e w' => ∃ v, e = .returned v ∧ K v w' := by
  rw [F29_step] at h
  exact calls_of (c := F29_code) mixed Try.func29 rfl (nlt rfl) (vc_sound mixed (orcNil F29_code) F29_code [] rfl F29_code_ok _ _ _ (rsh_out h))

/-! ropewalk/outbox.copied -/
noncomputable def F30_code : Code := Try.f30.body.getD .skip
theorem F30_code_ok : okC Try.prog Try.f30.ntmps F30_code = true := by kernel_rfl
def F30 (x0 : Value) (w : World) (K : Value → World → Prop) : Prop :=
  exR57 fun s1 => x0 = s1.v ∧ (alc (.cells s1.c 58) w fun b2 w3 => alc (.cells ((R57.mk 0 0 0 0 0 false 0 0 0 0 false none 0 0 false false)).c 58) w3 fun b4 w5 => ldC ((((Addr.mk b2 0 none).add 7).add 0).add 4) w5 fun l6a l6n l6c => Calls Try.prog 56 #[(.slice l6a l6n l6c)] w5 fun e8 w7 => ∃ l9a l9n l9c, e8 = .returned (.slice l9a l9n l9c) ∧ (stc ((((Addr.mk b2 0 none).add 7).add 0).add 4) (.slice l9a l9n l9c) w7 fun w10 => ldR57 (Addr.mk b2 0 none) w10 fun s11 => stcL (Addr.mk b4 0 none) 0 s11.l w10 fun w12 => ldR57 (Addr.mk b4 0 none) w12 fun s13 => K s13.v w12))
theorem F30_step (x0 : Value) (w : World) (K : Value → World → Prop) : (F30 x0 w K) = rsh [(0, (.agg [(.int .u32), (.int .i64), (.int .i64), (.int .i64), (.int .i64), .bool, (.int .i64), (.int .u16), (.int .u16), (.int .u32), .bool, .slc, .bool, .bool]))] (args0 #[x0]) (fun t => vc Try.prog (orcOf []) [] F30_code (retQ Try.prog Try.f30 K) t w) := by kernel_rfl
theorem F30_ok {x0 : Value} {w : World} {K : Value → World → Prop} (h : F30 x0 w K) : Calls Try.prog 30 #[x0] w fun e w' => ∃ v, e = .returned v ∧ K v w' := by
  rw [F30_step] at h
  exact calls_of (c := F30_code) mixed Try.func30 rfl (nlt rfl) (vc_sound mixed (orcNil F30_code) F30_code [] rfl F30_code_ok _ _ _ (rsh_out h))

/-! (*ropewalk/outbox.Box).ok -/
noncomputable def F31_code : Code := Try.f31.body.getD .skip
theorem F31_code_ok : okC Try.prog Try.f31.ntmps F31_code = true := by kernel_rfl
def F31 (x0 : Value) (w : World) (K : Value → World → Prop) : Prop :=
  rdP x0 fun p1 => br (!(Option.isNone p1)) (nn p1 fun a2 => ldI .i64 (a2.add 0) w fun n3 => K (.bool (decide ((n3 : Int) > 0))) w) (K (.bool false) w)
theorem F31_step (x0 : Value) (w : World) (K : Value → World → Prop) : (F31 x0 w K) = rsh [(0, (.one .ptr))] (args0 #[x0]) (fun t => vc Try.prog (orcOf []) [] F31_code (retQ Try.prog Try.f31 K) t w) := by kernel_rfl
theorem F31_ok {x0 : Value} {w : World} {K : Value → World → Prop} (h : F31 x0 w K) : Calls Try.prog 31 #[x0] w fun e w' => ∃ v, e = .returned v ∧ K v w' := by
  rw [F31_step] at h
  exact calls_of (c := F31_code) mixed Try.func31 rfl (nlt rfl) (vc_sound mixed (orcNil F31_code) F31_code [] rfl F31_code_ok _ _ _ (rsh_out h))

/-! (*ropewalk/outbox.Box).right -/
noncomputable def F32_code : Code := Try.f32.body.getD .skip
theorem F32_code_ok : okC Try.prog Try.f32.ntmps F32_code = true := by kernel_rfl
def F32_1C (Kn : Value → Value → Value → Value → Value → Value → Value → Value → Value → World → Prop) : Post := fun o t w => match o with | .normal => Kn (t 0) (t 4) (t 7) (t 23) (t 24) (t 25) (t 29) (t 30) (t 31) w | .exit _ => (False) | .ret => False
def F32_1 (Kn : Value → Value → Value → Value → Value → Value → Value → Value → Value → World → Prop) (x0 : Value) (x4 : Value) (x7 : Value) (x11 : Value) (x23 : Value) (x24 : Value) (x25 : Value) (x29 : Value) (x30 : Value) (x31 : Value) (w : World) : Prop :=
  rdP x0 fun p1 => rdA x4 fun a2 => rdI .u32 x7 fun n3 => rdA x11 fun a4 => rdC x23 fun l5a l5n l5c => rdI .i64 x24 fun n6 => rdI .i64 x25 fun n7 => rdC x29 fun l8a l8n l8c => rdI .i64 x30 fun n9 => rdI .i64 x31 fun n10 => ldI .u32 (a2.add 2) w fun n11 => ldI .u16 (a4.add 1) w fun n12 => Calls Try.prog 37 #[(.int .u32 n3), (.int .u32 (IntKind.wrap .u32 (n11 + (IntKind.wrap .u32 (n12)))))] w fun e14 w13 => ∃ n15, e14 = .returned (.int .i64 n15) ∧ (br (decide ((n15 : Int) > 0)) (Kn (.pointer p1) (.pointer (some a2)) (.int .u32 (IntKind.wrap .u32 (n11 + (IntKind.wrap .u32 (n12))))) (.slice l5a l5n l5c) (.int .i64 n6) (.int .i64 n7) (.slice l8a l8n l8c) (.int .i64 n9) (.int .i64 n10) w13) (Kn (.pointer p1) (.pointer (some a2)) (.int .u32 n3) (.slice l5a l5n l5c) (.int .i64 n6) (.int .i64 n7) (.slice l8a l8n l8c) (.int .i64 n9) (.int .i64 n10) w13))
def F32_1O (Q : Post) (t : Tm) (w : World) : Prop := F32_1 (fun y0 y4 y7 y23 y24 y25 y29 y30 y31 w => ∀ g, rsh [(0, (.one .ptr)), (4, (.one .adr)), (7, (.one (.int .u32))), (23, (.one .slc)), (24, (.one (.int .i64))), (25, (.one (.int .i64))), (29, (.one .slc)), (30, (.one (.int .i64))), (31, (.one (.int .i64)))] (upds g [(0, y0), (4, y4), (7, y7), (23, y23), (24, y24), (25, y25), (29, y29), (30, y30), (31, y31)]) fun t => Q .normal t w) (t 0) (t 4) (t 7) (t 11) (t 23) (t 24) (t 25) (t 29) (t 30) (t 31) w
theorem F32_1_step (Kn : Value → Value → Value → Value → Value → Value → Value → Value → Value → World → Prop) (t : Tm) (w : World) : (F32_1 Kn (t 0) (t 4) (t 7) (t 11) (t 23) (t 24) (t 25) (t 29) (t 30) (t 31) w) = rsh [(0, (.one .ptr)), (4, (.one .adr)), (7, (.one (.int .u32))), (11, (.one .adr)), (23, (.one .slc)), (24, (.one (.int .i64))), (25, (.one (.int .i64))), (29, (.one .slc)), (30, (.one (.int .i64))), (31, (.one (.int .i64)))] t (fun t => vc Try.prog (orcOf []) [1, 1, 0, 0, 1, 1, 0, 0, 1, 1, 0, 0, 1, 1, 0, 0, 1, 0, 1, 1, 1] (getAt F32_code [1, 1, 0, 0, 1, 1, 0, 0, 1, 1, 0, 0, 1, 1, 0, 0, 1, 0, 1, 1, 1]) (F32_1C Kn) t w) := by kernel_rfl
theorem F32_1_ok : ∀ Q t w, F32_1O Q t w → W Try.prog Try.f32.ntmps (getAt F32_code [1, 1, 0, 0, 1, 1, 0, 0, 1, 1, 0, 0, 1, 1, 0, 0, 1, 0, 1, 1, 1]) Q t w := by
  intro Q t w h
  unfold F32_1O at h
  rw [F32_1_step] at h
  refine (vc_sound mixed (orcNil F32_code) _ _ rfl (okC_at F32_code_ok [1, 1, 0, 0, 1, 1, 0, 0, 1, 1, 0, 0, 1, 1, 0, 0, 1, 0, 1, 1, 1]) _ _ _ (rsh_out h)).mono ?_
  intro o t w q
  cases o with
  | normal => exact out_ok [0, 4, 7, 23, 24, 25, 29, 30, 31] q
  | exit i => exact q.elim
  | ret => exact q.elim
def F32_2C (K2 : Value → Value → Value → Value → Value → Value → World → Prop) (Kr : Value → World → Prop) : Post := fun o t w => match o with | .normal => False | .exit i => (match Nat.beq i 2 with | true => K2 (t 0) (t 4) (t 7) (t 23) (t 24) (t 25) w | false => False) | .ret => Kr (t 6) w
def F32_2B (R : Value → Value → Value → Value → Value → Value → Value → Value → Value → World → Prop) (K2 : Value → Value → Value → Value → Value → Value → World → Prop) (Kr : Value → World → Prop) (x0 : Value) (x4 : Value) (x7 : Value) (x23 : Value) (x24 : Value) (x25 : Value) (x29 : Value) (x30 : Value) (x31 : Value) (w : World) : Prop :=
  rdP x0 fun p1 => rdA x4 fun a2 => rdI .u32 x7 fun n3 => rdC x23 fun l4a l4n l4c => rdI .i64 x24 fun n5 => rdI .i64 x25 fun n6 => rdC x29 fun l7a l7n l7c => rdI .i64 x30 fun n8 => rdI .i64 x31 fun n9 => br (decide ((n9 : Int) < n8)) (ixS 2 l7a l7n n9 fun a10 => ldI .u16 (a10.add 0) w fun n11 => ldI .u16 (a10.add 1) w fun n12 => alc (.cells #[(.int .u16 0), (.int .u16 0)] 44) w fun b13 w14 => stc ((Addr.mk b13 0 none).add 0) (.int .u16 n11) w14 fun w15 => stc ((Addr.mk b13 0 none).add 1) (.int .u16 n12) w15 fun w16 => ldI .u16 ((Addr.mk b13 0 none).add 0) w16 fun n17 => br (n17 == 0) (Kr (.int .i64 172) w16) (ldI .u16 ((Addr.mk b13 0 none).add 1) w16 fun n18 => ldI .u16 ((Addr.mk b13 0 none).add 0) w16 fun n19 => br (decide ((n18 : Int) < n19)) (Kr (.int .i64 172) w16) (F32_1 (fun y0_19 y4_19 y7_19 y23_19 y24_19 y25_19 y29_19 y30_19 y31_19 w21 => ∀ _g22 : Tm, rdP y0_19 fun p23 => rdA y4_19 fun a24 => rdI .u32 y7_19 fun n25 => rdC y23_19 fun l26a l26n l26c => rdI .i64 y24_19 fun n27 => rdI .i64 y25_19 fun n28 => rdC y29_19 fun l29a l29n l29c => rdI .i64 y30_19 fun n30 => rdI .i64 y31_19 fun n31 => R (.pointer p23) (.pointer (some a24)) (.int .u32 n25) (.slice l26a l26n l26c) (.int .i64 n27) (.int .i64 n28) (.slice l29a l29n l29c) (.int .i64 n30) (.int .i64 (IntKind.wrap .i64 (n31 + 1))) w21) (.pointer p1) (.pointer (some a2)) (.int .u32 n3) (.pointer (some (Addr.mk b13 0 none))) (.slice l4a l4n l4c) (.int .i64 n5) (.int .i64 n6) (.slice l7a l7n l7c) (.int .i64 n8) (.int .i64 n9) w16))) (K2 (.pointer p1) (.pointer (some a2)) (.int .u32 n3) (.slice l4a l4n l4c) (.int .i64 n5) (.int .i64 n6) w)
def F32_2 (K2 : Value → Value → Value → Value → Value → Value → World → Prop) (Kr : Value → World → Prop) : Nat → Value → Value → Value → Value → Value → Value → Value → Value → Value → World → Prop
  | 0 => fun _ _ _ _ _ _ _ _ _ _ => False
  | n + 1 => F32_2B (F32_2 K2 Kr n) K2 Kr
def F32_2O (Q : Post) (t : Tm) (w : World) : Prop := ∃ n, F32_2 (fun y0 y4 y7 y23 y24 y25 w => ∀ g, rsh [(0, (.one .ptr)), (4, (.one .adr)), (7, (.one (.int .u32))), (23, (.one .slc)), (24, (.one (.int .i64))), (25, (.one (.int .i64)))] (upds g [(0, y0), (4, y4), (7, y7), (23, y23), (24, y24), (25, y25)]) fun t => Q (.exit 2) t w) (fun y6 w => ∀ g, rsh [(6, (.one (.int .i64)))] (upds g [(6, y6)]) fun t => Q .ret t w) n (t 0) (t 4) (t 7) (t 23) (t 24) (t 25) (t 29) (t 30) (t 31) w
theorem F32_2_step (K2 : Value → Value → Value → Value → Value → Value → World → Prop) (Kr : Value → World → Prop) (n : Nat) (t : Tm) (w : World) : (F32_2 K2 Kr (n + 1) (t 0) (t 4) (t 7) (t 23) (t 24) (t 25) (t 29) (t 30) (t 31) w) = rsh [(0, (.one .ptr)), (4, (.one .adr)), (7, (.one (.int .u32))), (23, (.one .slc)), (24, (.one (.int .i64))), (25, (.one (.int .i64))), (29, (.one .slc)), (30, (.one (.int .i64))), (31, (.one (.int .i64)))] t (fun t => vc Try.prog (orcOf [([1, 1, 0, 0, 1, 1, 0, 0, 1, 1, 0, 0, 1, 1, 0, 0, 1, 0, 1, 1, 1], F32_1O)]) [0, 0, 1, 1, 0, 0, 1, 1, 0, 0, 1, 0, 1, 1, 1] (getAt F32_code [0, 0, 1, 1, 0, 0, 1, 1, 0, 0, 1, 0, 1, 1, 1]) (fun o t w => match o with | .normal => F32_2 K2 Kr n (t 0) (t 4) (t 7) (t 23) (t 24) (t 25) (t 29) (t 30) (t 31) w | .exit i => F32_2C K2 Kr (.exit i) t w | .ret => F32_2C K2 Kr .ret t w) t w) := by kernel_rfl
theorem F32_2_ok : ∀ Q t w, F32_2O Q t w → W Try.prog Try.f32.ntmps (getAt F32_code [0, 1, 1, 0, 0, 1, 1, 0, 0, 1, 0, 1, 1, 1]) Q t w := by
  intro Q t w ⟨n, h⟩
  refine (W_loop (P := Try.prog) (b := getAt F32_code [0, 0, 1, 1, 0, 0, 1, 1, 0, 0, 1, 0, 1, 1, 1]) (Q := F32_2C (fun y0 y4 y7 y23 y24 y25 w => ∀ g, rsh [(0, (.one .ptr)), (4, (.one .adr)), (7, (.one (.int .u32))), (23, (.one .slc)), (24, (.one (.int .i64))), (25, (.one (.int .i64)))] (upds g [(0, y0), (4, y4), (7, y7), (23, y23), (24, y24), (25, y25)]) fun t => Q (.exit 2) t w) (fun y6 w => ∀ g, rsh [(6, (.one (.int .i64)))] (upds g [(6, y6)]) fun t => Q .ret t w)) (G := fun n t w => F32_2 (fun y0 y4 y7 y23 y24 y25 w => ∀ g, rsh [(0, (.one .ptr)), (4, (.one .adr)), (7, (.one (.int .u32))), (23, (.one .slc)), (24, (.one (.int .i64))), (25, (.one (.int .i64)))] (upds g [(0, y0), (4, y4), (7, y7), (23, y23), (24, y24), (25, y25)]) fun t => Q (.exit 2) t w) (fun y6 w => ∀ g, rsh [(6, (.one (.int .i64)))] (upds g [(6, y6)]) fun t => Q .ret t w) n (t 0) (t 4) (t 7) (t 23) (t 24) (t 25) (t 29) (t 30) (t 31) w) (fun _ _ h => h) (fun n t w h => ?_) n t w h).mono ?_
  · rw [F32_2_step] at h
    exact vc_sound mixed (orcCons (π := [1, 1, 0, 0, 1, 1, 0, 0, 1, 1, 0, 0, 1, 1, 0, 0, 1, 0, 1, 1, 1]) F32_1_ok (orcNil F32_code)) _ _ rfl (okC_at F32_code_ok [0, 0, 1, 1, 0, 0, 1, 1, 0, 0, 1, 0, 1, 1, 1]) _ _ _ (rsh_out h)
  · intro o t w q
    cases o with
    | normal => exact q.elim
    | exit i =>
      unfold F32_2C at q
      simp only at q
      split at q
      · rename_i hi
        rw [nbeq] at hi
        subst hi
        exact out_ok [0, 4, 7, 23, 24, 25] q
      · exact q.elim
    | ret => exact out_ok [6] q
def F32_3C (K0 : Value → Value → Value → World → Prop) (Kr : Value → World → Prop) : Post := fun o t w => match o with | .normal => False | .exit i => (match Nat.beq i 0 with | true => K0 (t 0) (t 4) (t 7) w | false => False) | .ret => Kr (t 6) w
def F32_3B (R : Value → Value → Value → Value → Value → Value → World → Prop) (K0 : Value → Value → Value → World → Prop) (Kr : Value → World → Prop) (x0 : Value) (x4 : Value) (x7 : Value) (x23 : Value) (x24 : Value) (x25 : Value) (w : World) : Prop :=
  rdP x0 fun p1 => rdA x4 fun a2 => rdI .u32 x7 fun n3 => rdC x23 fun l4a l4n l4c => rdI .i64 x24 fun n5 => rdI .i64 x25 fun n6 => br (decide ((n6 : Int) < n5)) (ixS 1 l4a l4n n6 fun a7 => ldC a7 w fun l8a l8n l8c => ∃ k22 : Nat, F32_2 (fun y0_8 y4_8 y7_8 y23_8 y24_8 y25_8 w10 => ∀ _g11 : Tm, rdP y0_8 fun p12 => rdA y4_8 fun a13 => rdI .u32 y7_8 fun n14 => rdC y23_8 fun l15a l15n l15c => rdI .i64 y24_8 fun n16 => rdI .i64 y25_8 fun n17 => R (.pointer p12) (.pointer (some a13)) (.int .u32 n14) (.slice l15a l15n l15c) (.int .i64 n16) (.int .i64 (IntKind.wrap .i64 (n17 + 1))) w10) (fun y6_17 w19 => ∀ _g20 : Tm, rdI .i64 y6_17 fun n21 => Kr (.int .i64 n21) w19) k22 (.pointer p1) (.pointer (some a2)) (.int .u32 n3) (.slice l4a l4n l4c) (.int .i64 n5) (.int .i64 n6) (.slice l8a l8n l8c) (.int .i64 (l8n : Int)) (.int .i64 0) w) (K0 (.pointer p1) (.pointer (some a2)) (.int .u32 n3) w)
def F32_3 (K0 : Value → Value → Value → World → Prop) (Kr : Value → World → Prop) : Nat → Value → Value → Value → Value → Value → Value → World → Prop
  | 0 => fun _ _ _ _ _ _ _ => False
  | n + 1 => F32_3B (F32_3 K0 Kr n) K0 Kr
def F32_3O (Q : Post) (t : Tm) (w : World) : Prop := ∃ n, F32_3 (fun y0 y4 y7 w => ∀ g, rsh [(0, (.one .ptr)), (4, (.one .adr)), (7, (.one (.int .u32)))] (upds g [(0, y0), (4, y4), (7, y7)]) fun t => Q (.exit 0) t w) (fun y6 w => ∀ g, rsh [(6, (.one (.int .i64)))] (upds g [(6, y6)]) fun t => Q .ret t w) n (t 0) (t 4) (t 7) (t 23) (t 24) (t 25) w
theorem F32_3_step (K0 : Value → Value → Value → World → Prop) (Kr : Value → World → Prop) (n : Nat) (t : Tm) (w : World) : (F32_3 K0 Kr (n + 1) (t 0) (t 4) (t 7) (t 23) (t 24) (t 25) w) = rsh [(0, (.one .ptr)), (4, (.one .adr)), (7, (.one (.int .u32))), (23, (.one .slc)), (24, (.one (.int .i64))), (25, (.one (.int .i64)))] t (fun t => vc Try.prog (orcOf [([1, 1, 0, 0, 1, 1, 0, 0, 1, 1, 0, 0, 1, 1, 0, 0, 1, 0, 1, 1, 1], F32_1O), ([0, 1, 1, 0, 0, 1, 1, 0, 0, 1, 0, 1, 1, 1], F32_2O)]) [0, 0, 1, 0, 1, 1, 1] (getAt F32_code [0, 0, 1, 0, 1, 1, 1]) (fun o t w => match o with | .normal => F32_3 K0 Kr n (t 0) (t 4) (t 7) (t 23) (t 24) (t 25) w | .exit i => F32_3C K0 Kr (.exit i) t w | .ret => F32_3C K0 Kr .ret t w) t w) := by kernel_rfl
theorem F32_3_ok : ∀ Q t w, F32_3O Q t w → W Try.prog Try.f32.ntmps (getAt F32_code [0, 1, 0, 1, 1, 1]) Q t w := by
  intro Q t w ⟨n, h⟩
  refine (W_loop (P := Try.prog) (b := getAt F32_code [0, 0, 1, 0, 1, 1, 1]) (Q := F32_3C (fun y0 y4 y7 w => ∀ g, rsh [(0, (.one .ptr)), (4, (.one .adr)), (7, (.one (.int .u32)))] (upds g [(0, y0), (4, y4), (7, y7)]) fun t => Q (.exit 0) t w) (fun y6 w => ∀ g, rsh [(6, (.one (.int .i64)))] (upds g [(6, y6)]) fun t => Q .ret t w)) (G := fun n t w => F32_3 (fun y0 y4 y7 w => ∀ g, rsh [(0, (.one .ptr)), (4, (.one .adr)), (7, (.one (.int .u32)))] (upds g [(0, y0), (4, y4), (7, y7)]) fun t => Q (.exit 0) t w) (fun y6 w => ∀ g, rsh [(6, (.one (.int .i64)))] (upds g [(6, y6)]) fun t => Q .ret t w) n (t 0) (t 4) (t 7) (t 23) (t 24) (t 25) w) (fun _ _ h => h) (fun n t w h => ?_) n t w h).mono ?_
  · rw [F32_3_step] at h
    exact vc_sound mixed (orcCons (π := [1, 1, 0, 0, 1, 1, 0, 0, 1, 1, 0, 0, 1, 1, 0, 0, 1, 0, 1, 1, 1]) F32_1_ok (orcCons (π := [0, 1, 1, 0, 0, 1, 1, 0, 0, 1, 0, 1, 1, 1]) F32_2_ok (orcNil F32_code))) _ _ rfl (okC_at F32_code_ok [0, 0, 1, 0, 1, 1, 1]) _ _ _ (rsh_out h)
  · intro o t w q
    cases o with
    | normal => exact q.elim
    | exit i =>
      unfold F32_3C at q
      simp only at q
      split at q
      · rename_i hi
        rw [nbeq] at hi
        subst hi
        exact out_ok [0, 4, 7] q
      · exact q.elim
    | ret => exact out_ok [6] q
def F32_4C (Kr : Value → World → Prop) : Post := fun o t w => match o with | .normal => False | .exit _ => (False) | .ret => Kr (t 6) w
def F32_4 (Kr : Value → World → Prop) (x0 : Value) (x2 : Value) (x4 : Value) (w : World) : Prop :=
  rdP x0 fun p1 => rdC x2 fun l2a l2n l2c => rdA x4 fun a3 => ldI .u32 (a3.add 2) w fun n4 => ∃ k37 : Nat, F32_3 (fun y0_4 y4_4 y7_4 w6 => ∀ _g7 : Tm, rdP y0_4 fun p8 => rdA y4_4 fun a9 => rdI .u32 y7_4 fun n10 => drw w6 fun w11 => ldI .u32 (a9.add 2) w11 fun n12 => nn p8 fun a13 => ldI .u32 (a13.add 1) w11 fun n14 => Calls Try.prog 57 #[(.int .u32 n12), (.int .u32 n14)] w11 fun e16 w15 => ∃ b17, e16 = .returned (.bool b17) ∧ (br b17 (Kr (.int .i64 170) w15) (drw w15 fun w18 => ∃ w19 : World, Pres w19 w18 ∧ (ldI .u32 (a9.add 2) w19 fun n20 => Calls Try.prog 19 #[(.pointer p8)] w18 fun e22 w21 => ∃ n23, e22 = .returned (.int .u32 n23) ∧ (Pres w19 w21 ∧ (Calls Try.prog 37 #[(.int .u32 n23), (.int .u32 n20)] w21 fun e25 w24 => ∃ n26, e25 = .returned (.int .i64 n26) ∧ (br (decide ((n26 : Int) ≥ 0)) (Kr (.int .i64 171) w24) (Calls Try.prog 19 #[(.pointer p8)] w24 fun e28 w27 => ∃ n29, e28 = .returned (.int .u32 n29) ∧ (Calls Try.prog 37 #[(.int .u32 n29), (.int .u32 n10)] w27 fun e31 w30 => ∃ n32, e31 = .returned (.int .i64 n32) ∧ (br (decide ((n32 : Int) ≥ 0)) (Kr (.int .i64 171) w30) (Kr (.int .i64 0) w30))))))))))) (fun y6_32 w34 => ∀ _g35 : Tm, rdI .i64 y6_32 fun n36 => Kr (.int .i64 n36) w34) k37 (.pointer p1) (.pointer (some a3)) (.int .u32 n4) (.slice l2a l2n l2c) (.int .i64 (l2n : Int)) (.int .i64 0) w
def F32_4O (Q : Post) (t : Tm) (w : World) : Prop := F32_4 (fun y6 w => ∀ g, rsh [(6, (.one (.int .i64)))] (upds g [(6, y6)]) fun t => Q .ret t w) (t 0) (t 2) (t 4) w
theorem F32_4_step (Kr : Value → World → Prop) (t : Tm) (w : World) : (F32_4 Kr (t 0) (t 2) (t 4) w) = rsh [(0, (.one .ptr)), (2, (.one .slc)), (4, (.one .adr))] t (fun t => vc Try.prog (orcOf [([1, 1, 0, 0, 1, 1, 0, 0, 1, 1, 0, 0, 1, 1, 0, 0, 1, 0, 1, 1, 1], F32_1O), ([0, 1, 1, 0, 0, 1, 1, 0, 0, 1, 0, 1, 1, 1], F32_2O), ([0, 1, 0, 1, 1, 1], F32_3O)]) [1, 1] (getAt F32_code [1, 1]) (F32_4C Kr) t w) := by kernel_rfl
theorem F32_4_ok : ∀ Q t w, F32_4O Q t w → W Try.prog Try.f32.ntmps (getAt F32_code [1, 1]) Q t w := by
  intro Q t w h
  unfold F32_4O at h
  rw [F32_4_step] at h
  refine (vc_sound mixed (orcCons (π := [1, 1, 0, 0, 1, 1, 0, 0, 1, 1, 0, 0, 1, 1, 0, 0, 1, 0, 1, 1, 1]) F32_1_ok (orcCons (π := [0, 1, 1, 0, 0, 1, 1, 0, 0, 1, 0, 1, 1, 1]) F32_2_ok (orcCons (π := [0, 1, 0, 1, 1, 1]) F32_3_ok (orcNil F32_code)))) _ _ rfl (okC_at F32_code_ok [1, 1]) _ _ _ (rsh_out h)).mono ?_
  intro o t w q
  cases o with
  | normal => exact q.elim
  | exit i => exact q.elim
  | ret => exact out_ok [6] q
def F32 (x0 : Value) (x1 : Value) (x2 : Value) (w : World) (K : Value → World → Prop) : Prop :=
  rdP x0 fun p1 => exR30 fun s2 => x1 = s2.v ∧ (rdC x2 fun l3a l3n l3c => alc (.cells s2.c 31) w fun b4 w5 => ldI .u8 ((Addr.mk b4 0 none).add 0) w5 fun n6 => br (n6 != 3) (ldI .u8 ((Addr.mk b4 0 none).add 0) w5 fun n7 => br (n7 != 16) (K (.int .i64 172) w5) (F32_4 (fun y6_7 w9 => ∀ _g10 : Tm, rdI .i64 y6_7 fun n11 => K (.int .i64 n11) w9) (.pointer p1) (.slice l3a l3n l3c) (.pointer (some (Addr.mk b4 0 none))) w5)) (F32_4 (fun y6_11 w13 => ∀ _g14 : Tm, rdI .i64 y6_11 fun n15 => K (.int .i64 n15) w13) (.pointer p1) (.slice l3a l3n l3c) (.pointer (some (Addr.mk b4 0 none))) w5))
theorem F32_step (x0 : Value) (x1 : Value) (x2 : Value) (w : World) (K : Value → World → Prop) : (F32 x0 x1 x2 w K) = rsh [(0, (.one .ptr)), (1, (.agg [(.int .u8), (.int .u8), (.int .u32), (.int .u16), (.int .u16), (.int .u32), (.int .u32), (.int .u32), (.int .u16), (.int .u16), .slc, .slc, .slc, .slc, .slc])), (2, (.one .slc))] (args0 #[x0, x1, x2]) (fun t => vc Try.prog (orcOf [([1, 1, 0, 0, 1, 1, 0, 0, 1, 1, 0, 0, 1, 1, 0, 0, 1, 0, 1, 1, 1], F32_1O), ([0, 1, 1, 0, 0, 1, 1, 0, 0, 1, 0, 1, 1, 1], F32_2O), ([0, 1, 0, 1, 1, 1], F32_3O), ([1, 1], F32_4O)]) [] F32_code (retQ Try.prog Try.f32 K) t w) := by kernel_rfl
theorem F32_ok {x0 x1 x2 : Value} {w : World} {K : Value → World → Prop} (h : F32 x0 x1 x2 w K) : Calls Try.prog 32 #[x0, x1, x2] w fun e w' => ∃ v, e = .returned v ∧ K v w' := by
  rw [F32_step] at h
  exact calls_of (c := F32_code) mixed Try.func32 rfl (nlt rfl) (vc_sound mixed (orcCons (π := [1, 1, 0, 0, 1, 1, 0, 0, 1, 1, 0, 0, 1, 1, 0, 0, 1, 0, 1, 1, 1]) F32_1_ok (orcCons (π := [0, 1, 1, 0, 0, 1, 1, 0, 0, 1, 0, 1, 1, 1]) F32_2_ok (orcCons (π := [0, 1, 0, 1, 1, 1]) F32_3_ok (orcCons (π := [1, 1]) F32_4_ok (orcNil F32_code))))) F32_code [] rfl F32_code_ok _ _ _ (rsh_out h))

/-! (*ropewalk/outbox.Box).read -/
noncomputable def F33_code : Code := Try.f33.body.getD .skip
theorem F33_code_ok : okC Try.prog Try.f33.ntmps F33_code = true := by kernel_rfl
def F33_1C (K2 : Value → Value → World → Prop) : Post := fun o t w => match o with | .normal => False | .exit i => (match Nat.beq i 2 with | true => K2 (t 6) (t 7) w | false => False) | .ret => False
def F33_1B (R : Value → Value → Value → Value → Value → World → Prop) (K2 : Value → Value → World → Prop) (x6 : Value) (x7 : Value) (x70 : Value) (x71 : Value) (x72 : Value) (w : World) : Prop :=
  rdA x6 fun a1 => rdA x7 fun a2 => rdC x70 fun l3a l3n l3c => rdI .i64 x71 fun n4 => rdI .i64 x72 fun n5 => br (decide ((n5 : Int) < n4)) (ixS 1 l3a l3n n5 fun a6 => ldP a6 w fun p7 => drw w fun w8 => ∃ w9 : World, Pres w9 w8 ∧ (ldC (a2.add 2) w9 fun l10a l10n _ => ldC (a2.add 0) w8 fun l11a l11n _ => ixS 1 l11a l11n n5 fun a12 => ldB a12 w8 fun b13 => br b13 (Calls Try.prog 59 #[(.pointer p7)] w8 fun e15 w14 => ∃ b16, e15 = .returned (.bool b16) ∧ (Pres w9 w14 ∧ (ixS 1 l10a l10n n5 fun a17 => stc a17 (.bool b16) w14 fun w18 => R (.pointer (some a1)) (.pointer (some a2)) (.slice l3a l3n l3c) (.int .i64 n4) (.int .i64 (IntKind.wrap .i64 (n5 + 1))) w18))) (ixS 1 l10a l10n n5 fun a19 => stc a19 (.bool false) w8 fun w20 => R (.pointer (some a1)) (.pointer (some a2)) (.slice l3a l3n l3c) (.int .i64 n4) (.int .i64 (IntKind.wrap .i64 (n5 + 1))) w20))) (K2 (.pointer (some a1)) (.pointer (some a2)) w)
def F33_1 (K2 : Value → Value → World → Prop) : Nat → Value → Value → Value → Value → Value → World → Prop
  | 0 => fun _ _ _ _ _ _ => False
  | n + 1 => F33_1B (F33_1 K2 n) K2
def F33_1O (Q : Post) (t : Tm) (w : World) : Prop := ∃ n, F33_1 (fun y6 y7 w => ∀ g, rsh [(6, (.one .adr)), (7, (.one .adr))] (upds g [(6, y6), (7, y7)]) fun t => Q (.exit 2) t w) n (t 6) (t 7) (t 70) (t 71) (t 72) w
theorem F33_1_step (K2 : Value → Value → World → Prop) (n : Nat) (t : Tm) (w : World) : (F33_1 K2 (n + 1) (t 6) (t 7) (t 70) (t 71) (t 72) w) = rsh [(6, (.one .adr)), (7, (.one .adr)), (70, (.one .slc)), (71, (.one (.int .i64))), (72, (.one (.int .i64)))] t (fun t => vc Try.prog (orcOf []) [0, 0, 1, 0, 1, 1, 1, 1, 1, 1] (getAt F33_code [0, 0, 1, 0, 1, 1, 1, 1, 1, 1]) (fun o t w => match o with | .normal => F33_1 K2 n (t 6) (t 7) (t 70) (t 71) (t 72) w | .exit i => F33_1C K2 (.exit i) t w | .ret => F33_1C K2 .ret t w) t w) := by kernel_rfl
theorem F33_1_ok : ∀ Q t w, F33_1O Q t w → W Try.prog Try.f33.ntmps (getAt F33_code [0, 1, 0, 1, 1, 1, 1, 1, 1]) Q t w := by
  intro Q t w ⟨n, h⟩
  refine (W_loop (P := Try.prog) (b := getAt F33_code [0, 0, 1, 0, 1, 1, 1, 1, 1, 1]) (Q := F33_1C (fun y6 y7 w => ∀ g, rsh [(6, (.one .adr)), (7, (.one .adr))] (upds g [(6, y6), (7, y7)]) fun t => Q (.exit 2) t w)) (G := fun n t w => F33_1 (fun y6 y7 w => ∀ g, rsh [(6, (.one .adr)), (7, (.one .adr))] (upds g [(6, y6), (7, y7)]) fun t => Q (.exit 2) t w) n (t 6) (t 7) (t 70) (t 71) (t 72) w) (fun _ _ h => h) (fun n t w h => ?_) n t w h).mono ?_
  · rw [F33_1_step] at h
    exact vc_sound mixed (orcNil F33_code) _ _ rfl (okC_at F33_code_ok [0, 0, 1, 0, 1, 1, 1, 1, 1, 1]) _ _ _ (rsh_out h)
  · intro o t w q
    cases o with
    | normal => exact q.elim
    | exit i =>
      unfold F33_1C at q
      simp only at q
      split at q
      · rename_i hi
        rw [nbeq] at hi
        subst hi
        exact out_ok [6, 7] q
      · exact q.elim
    | ret => exact q.elim
def F33_2C (K0 : Value → Value → Value → Value → Value → World → Prop) : Post := fun o t w => match o with | .normal => False | .exit i => (match Nat.beq i 0 with | true => K0 (t 0) (t 2) (t 4) (t 6) (t 7) w | false => False) | .ret => False
def F33_2B (R : Value → Value → Value → Value → Value → Value → Value → World → Prop) (K0 : Value → Value → Value → Value → Value → World → Prop) (x0 : Value) (x2 : Value) (x4 : Value) (x6 : Value) (x7 : Value) (x36 : Value) (x37 : Value) (w : World) : Prop :=
  rdP x0 fun p1 => rdC x2 fun l2a l2n l2c => rdA x4 fun a3 => rdA x6 fun a4 => rdA x7 fun a5 => rdI .i64 x36 fun n6 => rdI .i64 x37 fun n7 => br (decide ((n7 : Int) < n6)) (ldC (a5.add 1) w fun l8a l8n _ => ixS 1 l8a l8n n7 fun a9 => stc a9 (.bool true) w fun w10 => R (.pointer p1) (.slice l2a l2n l2c) (.pointer (some a3)) (.pointer (some a4)) (.pointer (some a5)) (.int .i64 n6) (.int .i64 (IntKind.wrap .i64 (n7 + 1))) w10) (K0 (.pointer p1) (.slice l2a l2n l2c) (.pointer (some a3)) (.pointer (some a4)) (.pointer (some a5)) w)
def F33_2 (K0 : Value → Value → Value → Value → Value → World → Prop) : Nat → Value → Value → Value → Value → Value → Value → Value → World → Prop
  | 0 => fun _ _ _ _ _ _ _ _ => False
  | n + 1 => F33_2B (F33_2 K0 n) K0
def F33_2O (Q : Post) (t : Tm) (w : World) : Prop := ∃ n, F33_2 (fun y0 y2 y4 y6 y7 w => ∀ g, rsh [(0, (.one .ptr)), (2, (.one .slc)), (4, (.one .adr)), (6, (.one .adr)), (7, (.one .adr))] (upds g [(0, y0), (2, y2), (4, y4), (6, y6), (7, y7)]) fun t => Q (.exit 0) t w) n (t 0) (t 2) (t 4) (t 6) (t 7) (t 36) (t 37) w
theorem F33_2_step (K0 : Value → Value → Value → Value → Value → World → Prop) (n : Nat) (t : Tm) (w : World) : (F33_2 K0 (n + 1) (t 0) (t 2) (t 4) (t 6) (t 7) (t 36) (t 37) w) = rsh [(0, (.one .ptr)), (2, (.one .slc)), (4, (.one .adr)), (6, (.one .adr)), (7, (.one .adr)), (36, (.one (.int .i64))), (37, (.one (.int .i64)))] t (fun t => vc Try.prog (orcOf []) [0, 0, 1, 0, 1, 1] (getAt F33_code [0, 0, 1, 0, 1, 1]) (fun o t w => match o with | .normal => F33_2 K0 n (t 0) (t 2) (t 4) (t 6) (t 7) (t 36) (t 37) w | .exit i => F33_2C K0 (.exit i) t w | .ret => F33_2C K0 .ret t w) t w) := by kernel_rfl
theorem F33_2_ok : ∀ Q t w, F33_2O Q t w → W Try.prog Try.f33.ntmps (getAt F33_code [0, 1, 0, 1, 1]) Q t w := by
  intro Q t w ⟨n, h⟩
  refine (W_loop (P := Try.prog) (b := getAt F33_code [0, 0, 1, 0, 1, 1]) (Q := F33_2C (fun y0 y2 y4 y6 y7 w => ∀ g, rsh [(0, (.one .ptr)), (2, (.one .slc)), (4, (.one .adr)), (6, (.one .adr)), (7, (.one .adr))] (upds g [(0, y0), (2, y2), (4, y4), (6, y6), (7, y7)]) fun t => Q (.exit 0) t w)) (G := fun n t w => F33_2 (fun y0 y2 y4 y6 y7 w => ∀ g, rsh [(0, (.one .ptr)), (2, (.one .slc)), (4, (.one .adr)), (6, (.one .adr)), (7, (.one .adr))] (upds g [(0, y0), (2, y2), (4, y4), (6, y6), (7, y7)]) fun t => Q (.exit 0) t w) n (t 0) (t 2) (t 4) (t 6) (t 7) (t 36) (t 37) w) (fun _ _ h => h) (fun n t w h => ?_) n t w h).mono ?_
  · rw [F33_2_step] at h
    exact vc_sound mixed (orcNil F33_code) _ _ rfl (okC_at F33_code_ok [0, 0, 1, 0, 1, 1]) _ _ _ (rsh_out h)
  · intro o t w q
    cases o with
    | normal => exact q.elim
    | exit i =>
      unfold F33_2C at q
      simp only at q
      split at q
      · rename_i hi
        rw [nbeq] at hi
        subst hi
        exact out_ok [0, 2, 4, 6, 7] q
      · exact q.elim
    | ret => exact q.elim
def F33_3C (Kr : Value → World → Prop) : Post := fun o t w => match o with | .normal => False | .exit _ => (False) | .ret => Kr (t 6) w
def F33_3 (Kr : Value → World → Prop) (x0 : Value) (x2 : Value) (x4 : Value) (x6 : Value) (x7 : Value) (w : World) : Prop :=
  rdP x0 fun p1 => rdC x2 fun l2a l2n l2c => rdA x4 fun a3 => rdA x6 fun a4 => rdA x7 fun a5 => drw w fun w6 => nn p1 fun a7 => ldI .u32 (a7.add 1) w6 fun n8 => ldI .u32 (a3.add 2) w6 fun n9 => Calls Try.prog 37 #[(.int .u32 n8), (.int .u32 n9)] w6 fun e11 w10 => ∃ n12, e11 = .returned (.int .i64 n12) ∧ (∃ k48 : Nat, F33_2 (fun y0_12 y2_12 y4_12 y6_12 y7_12 w14 => ∀ _g15 : Tm, rdP y0_12 fun p16 => rdC y2_12 fun l17a l17n l17c => rdA y4_12 fun a18 => rdA y6_12 fun a19 => rdA y7_12 fun a20 => ldI .u32 (a18.add 2) w14 fun n21 => ldC (a20.add 1) w14 fun l22a l22n l22c => alc (.cells #[(.slice l17a l17n l17c)] 27) w14 fun b23 w24 => Calls Try.prog 58 #[(.pointer p16), (.int .u32 n21), (.slice l22a l22n l22c), (.slice (some (Addr.mk b23 0 none)) 1 1)] w24 fun e26 w25 => e26 = .returned (.tuple #[]) ∧ (ldC (a20.add 0) w25 fun l27a l27n l27c => ldC (a20.add 1) w25 fun l28a l28n l28c => ∃ n29 w30, Sem.run Try.prog (Builtin.copy_ #[24, 24] 3 #[(.slice l27a l27n l27c), (.slice l28a l28n l28c)]) w25 = .ok (.int .i64 n29) w30 ∧ (ldI .u32 (a18.add 2) w30 fun n31 => ldC (a20.add 0) w30 fun l32a l32n l32c => ldC (a18.add 10) w30 fun l33a l33n l33c => alc (.cells #[(.slice l33a l33n l33c)] 27) w30 fun b34 w35 => Calls Try.prog 58 #[(.pointer p16), (.int .u32 n31), (.slice l32a l32n l32c), (.slice (some (Addr.mk b34 0 none)) 1 1)] w35 fun e37 w36 => e37 = .returned (.tuple #[]) ∧ (nn p16 fun a38 => ldC (a38.add 2) w36 fun l39a l39n l39c => ∃ k47 : Nat, F33_1 (fun y6_39 y7_39 w41 => ∀ _g42 : Tm, rdA y6_39 fun a43 => rdA y7_39 fun a44 => ldR95 a44 w41 fun s45 => stcL a43 0 s45.l w41 fun w46 => Kr (.pointer (some a43)) w46) k47 (.pointer (some a19)) (.pointer (some a20)) (.slice l39a l39n l39c) (.int .i64 (l39n : Int)) (.int .i64 0) w36)))) k48 (.pointer p1) (.slice l2a l2n l2c) (.pointer (some a3)) (.pointer (some a4)) (.pointer (some a5)) (.int .i64 n12) (.int .i64 0) w10)
def F33_3O (Q : Post) (t : Tm) (w : World) : Prop := F33_3 (fun y6 w => ∀ g, rsh [(6, (.one .adr))] (upds g [(6, y6)]) fun t => Q .ret t w) (t 0) (t 2) (t 4) (t 6) (t 7) w
theorem F33_3_step (Kr : Value → World → Prop) (t : Tm) (w : World) : (F33_3 Kr (t 0) (t 2) (t 4) (t 6) (t 7) w) = rsh [(0, (.one .ptr)), (2, (.one .slc)), (4, (.one .adr)), (6, (.one .adr)), (7, (.one .adr))] t (fun t => vc Try.prog (orcOf [([0, 1, 0, 1, 1, 1, 1, 1, 1], F33_1O), ([0, 1, 0, 1, 1], F33_2O)]) [1, 1] (getAt F33_code [1, 1]) (F33_3C Kr) t w) := by kernel_rfl
theorem F33_3_ok : ∀ Q t w, F33_3O Q t w → W Try.prog Try.f33.ntmps (getAt F33_code [1, 1]) Q t w := by
  intro Q t w h
  unfold F33_3O at h
  rw [F33_3_step] at h
  refine (vc_sound mixed (orcCons (π := [0, 1, 0, 1, 1, 1, 1, 1, 1]) F33_1_ok (orcCons (π := [0, 1, 0, 1, 1]) F33_2_ok (orcNil F33_code))) _ _ rfl (okC_at F33_code_ok [1, 1]) _ _ _ (rsh_out h)).mono ?_
  intro o t w q
  cases o with
  | normal => exact q.elim
  | exit i => exact q.elim
  | ret => exact out_ok [6] q
def F33 (x0 : Value) (x1 : Value) (x2 : Value) (w : World) (K : Value → World → Prop) : Prop :=
  rdP x0 fun p1 => exR30 fun s2 => x1 = s2.v ∧ (rdC x2 fun l3a l3n l3c => alc (.cells s2.c 31) w fun b4 w5 => alc (.cells ((R95.mk none 0 0 none 0 0 none 0 0)).c 96) w5 fun b6 w7 => drw w7 fun w8 => nn p1 fun a9 => ldC (a9.add 2) w8 fun _ l10n _ => nn p1 fun a11 => ldC (a11.add 2) w8 fun _ l12n _ => nn p1 fun a13 => ldC (a13.add 2) w8 fun _ l14n _ => ((∃ l15a l15n l15c, ∃ w16, Sem.run Try.prog (Instr.makeSlice 24 (.int .i64 (l10n : Int)) (.int .i64 (l10n : Int))) w8 = .ok (.slice l15a l15n l15c) w16 ∧ (Pres w8 w16 ∧ (((∃ l17a l17n l17c, ∃ w18, Sem.run Try.prog (Instr.makeSlice 24 (.int .i64 (l12n : Int)) (.int .i64 (l12n : Int))) w16 = .ok (.slice l17a l17n l17c) w18 ∧ (Pres w8 w18 ∧ (((∃ l19a l19n l19c, ∃ w20, Sem.run Try.prog (Instr.makeSlice 24 (.int .i64 (l14n : Int)) (.int .i64 (l14n : Int))) w18 = .ok (.slice l19a l19n l19c) w20 ∧ (Pres w8 w20 ∧ (alc (.cells ((R95.mk none 0 0 none 0 0 none 0 0)).c 96) w20 fun b21 w22 => Pres w8 w22 ∧ (stcL (Addr.mk b21 0 none) 0 (R95.mk l15a l15n l15c l17a l17n l17c l19a l19n l19c).l w22 fun w23 => F33_3 (fun y6_23 w25 => ∀ _g26 : Tm, rdA y6_23 fun a27 => ldR95 a27 w25 fun s28 => K s28.v w25) (.pointer p1) (.slice l3a l3n l3c) (.pointer (some (Addr.mk b4 0 none))) (.pointer (some (Addr.mk b6 0 none))) (.pointer (some (Addr.mk b21 0 none))) w23)))) ∧ (alc (.cells ((R95.mk none 0 0 none 0 0 none 0 0)).c 96) w18 fun b29 w30 => Pres w8 w30 ∧ (∃ l31a l31n l31c, ∃ w32, Sem.run Try.prog (Instr.makeSlice 24 (.int .i64 (l14n : Int)) (.int .i64 (l14n : Int))) w30 = .ok (.slice l31a l31n l31c) w32 ∧ (Pres w8 w32 ∧ (stcL (Addr.mk b29 0 none) 0 (R95.mk l15a l15n l15c l17a l17n l17c l31a l31n l31c).l w32 fun w33 => F33_3 (fun y6_33 w35 => ∀ _g36 : Tm, rdA y6_33 fun a37 => ldR95 a37 w35 fun s38 => K s38.v w35) (.pointer p1) (.slice l3a l3n l3c) (.pointer (some (Addr.mk b4 0 none))) (.pointer (some (Addr.mk b6 0 none))) (.pointer (some (Addr.mk b29 0 none))) w33)))))))) ∧ ((∃ l39a l39n l39c, ∃ w40, Sem.run Try.prog (Instr.makeSlice 24 (.int .i64 (l14n : Int)) (.int .i64 (l14n : Int))) w16 = .ok (.slice l39a l39n l39c) w40 ∧ (Pres w8 w40 ∧ (((∃ l41a l41n l41c, ∃ w42, Sem.run Try.prog (Instr.makeSlice 24 (.int .i64 (l12n : Int)) (.int .i64 (l12n : Int))) w40 = .ok (.slice l41a l41n l41c) w42 ∧ (Pres w8 w42 ∧ (alc (.cells ((R95.mk none 0 0 none 0 0 none 0 0)).c 96) w42 fun b43 w44 => Pres w8 w44 ∧ (stcL (Addr.mk b43 0 none) 0 (R95.mk l15a l15n l15c l41a l41n l41c l39a l39n l39c).l w44 fun w45 => F33_3 (fun y6_45 w47 => ∀ _g48 : Tm, rdA y6_45 fun a49 => ldR95 a49 w47 fun s50 => K s50.v w47) (.pointer p1) (.slice l3a l3n l3c) (.pointer (some (Addr.mk b4 0 none))) (.pointer (some (Addr.mk b6 0 none))) (.pointer (some (Addr.mk b43 0 none))) w45)))) ∧ (alc (.cells ((R95.mk none 0 0 none 0 0 none 0 0)).c 96) w40 fun b51 w52 => Pres w8 w52 ∧ (∃ l53a l53n l53c, ∃ w54, Sem.run Try.prog (Instr.makeSlice 24 (.int .i64 (l12n : Int)) (.int .i64 (l12n : Int))) w52 = .ok (.slice l53a l53n l53c) w54 ∧ (Pres w8 w54 ∧ (stcL (Addr.mk b51 0 none) 0 (R95.mk l15a l15n l15c l53a l53n l53c l39a l39n l39c).l w54 fun w55 => F33_3 (fun y6_55 w57 => ∀ _g58 : Tm, rdA y6_55 fun a59 => ldR95 a59 w57 fun s60 => K s60.v w57) (.pointer p1) (.slice l3a l3n l3c) (.pointer (some (Addr.mk b4 0 none))) (.pointer (some (Addr.mk b6 0 none))) (.pointer (some (Addr.mk b51 0 none))) w55)))))))) ∧ (alc (.cells ((R95.mk none 0 0 none 0 0 none 0 0)).c 96) w16 fun b61 w62 => Pres w8 w62 ∧ (((∃ l63a l63n l63c, ∃ w64, Sem.run Try.prog (Instr.makeSlice 24 (.int .i64 (l12n : Int)) (.int .i64 (l12n : Int))) w62 = .ok (.slice l63a l63n l63c) w64 ∧ (Pres w8 w64 ∧ (∃ l65a l65n l65c, ∃ w66, Sem.run Try.prog (Instr.makeSlice 24 (.int .i64 (l14n : Int)) (.int .i64 (l14n : Int))) w64 = .ok (.slice l65a l65n l65c) w66 ∧ (Pres w8 w66 ∧ (stcL (Addr.mk b61 0 none) 0 (R95.mk l15a l15n l15c l63a l63n l63c l65a l65n l65c).l w66 fun w67 => F33_3 (fun y6_67 w69 => ∀ _g70 : Tm, rdA y6_67 fun a71 => ldR95 a71 w69 fun s72 => K s72.v w69) (.pointer p1) (.slice l3a l3n l3c) (.pointer (some (Addr.mk b4 0 none))) (.pointer (some (Addr.mk b6 0 none))) (.pointer (some (Addr.mk b61 0 none))) w67))))) ∧ (∃ l73a l73n l73c, ∃ w74, Sem.run Try.prog (Instr.makeSlice 24 (.int .i64 (l14n : Int)) (.int .i64 (l14n : Int))) w62 = .ok (.slice l73a l73n l73c) w74 ∧ (Pres w8 w74 ∧ (∃ l75a l75n l75c, ∃ w76, Sem.run Try.prog (Instr.makeSlice 24 (.int .i64 (l12n : Int)) (.int .i64 (l12n : Int))) w74 = .ok (.slice l75a l75n l75c) w76 ∧ (Pres w8 w76 ∧ (stcL (Addr.mk b61 0 none) 0 (R95.mk l15a l15n l15c l75a l75n l75c l73a l73n l73c).l w76 fun w77 => F33_3 (fun y6_77 w79 => ∀ _g80 : Tm, rdA y6_77 fun a81 => ldR95 a81 w79 fun s82 => K s82.v w79) (.pointer p1) (.slice l3a l3n l3c) (.pointer (some (Addr.mk b4 0 none))) (.pointer (some (Addr.mk b6 0 none))) (.pointer (some (Addr.mk b61 0 none))) w77))))))))))))) ∧ ((∃ l83a l83n l83c, ∃ w84, Sem.run Try.prog (Instr.makeSlice 24 (.int .i64 (l12n : Int)) (.int .i64 (l12n : Int))) w8 = .ok (.slice l83a l83n l83c) w84 ∧ (Pres w8 w84 ∧ (((∃ l85a l85n l85c, ∃ w86, Sem.run Try.prog (Instr.makeSlice 24 (.int .i64 (l10n : Int)) (.int .i64 (l10n : Int))) w84 = .ok (.slice l85a l85n l85c) w86 ∧ (Pres w8 w86 ∧ (((∃ l87a l87n l87c, ∃ w88, Sem.run Try.prog (Instr.makeSlice 24 (.int .i64 (l14n : Int)) (.int .i64 (l14n : Int))) w86 = .ok (.slice l87a l87n l87c) w88 ∧ (Pres w8 w88 ∧ (alc (.cells ((R95.mk none 0 0 none 0 0 none 0 0)).c 96) w88 fun b89 w90 => Pres w8 w90 ∧ (stcL (Addr.mk b89 0 none) 0 (R95.mk l85a l85n l85c l83a l83n l83c l87a l87n l87c).l w90 fun w91 => F33_3 (fun y6_91 w93 => ∀ _g94 : Tm, rdA y6_91 fun a95 => ldR95 a95 w93 fun s96 => K s96.v w93) (.pointer p1) (.slice l3a l3n l3c) (.pointer (some (Addr.mk b4 0 none))) (.pointer (some (Addr.mk b6 0 none))) (.pointer (some (Addr.mk b89 0 none))) w91)))) ∧ (alc (.cells ((R95.mk none 0 0 none 0 0 none 0 0)).c 96) w86 fun b97 w98 => Pres w8 w98 ∧ (∃ l99a l99n l99c, ∃ w100, Sem.run Try.prog (Instr.makeSlice 24 (.int .i64 (l14n : Int)) (.int .i64 (l14n : Int))) w98 = .ok (.slice l99a l99n l99c) w100 ∧ (Pres w8 w100 ∧ (stcL (Addr.mk b97 0 none) 0 (R95.mk l85a l85n l85c l83a l83n l83c l99a l99n l99c).l w100 fun w101 => F33_3 (fun y6_101 w103 => ∀ _g104 : Tm, rdA y6_101 fun a105 => ldR95 a105 w103 fun s106 => K s106.v w103) (.pointer p1) (.slice l3a l3n l3c) (.pointer (some (Addr.mk b4 0 none))) (.pointer (some (Addr.mk b6 0 none))) (.pointer (some (Addr.mk b97 0 none))) w101)))))))) ∧ ((∃ l107a l107n l107c, ∃ w108, Sem.run Try.prog (Instr.makeSlice 24 (.int .i64 (l14n : Int)) (.int .i64 (l14n : Int))) w84 = .ok (.slice l107a l107n l107c) w108 ∧ (Pres w8 w108 ∧ (((∃ l109a l109n l109c, ∃ w110, Sem.run Try.prog (Instr.makeSlice 24 (.int .i64 (l10n : Int)) (.int .i64 (l10n : Int))) w108 = .ok (.slice l109a l109n l109c) w110 ∧ (Pres w8 w110 ∧ (alc (.cells ((R95.mk none 0 0 none 0 0 none 0 0)).c 96) w110 fun b111 w112 => Pres w8 w112 ∧ (stcL (Addr.mk b111 0 none) 0 (R95.mk l109a l109n l109c l83a l83n l83c l107a l107n l107c).l w112 fun w113 => F33_3 (fun y6_113 w115 => ∀ _g116 : Tm, rdA y6_113 fun a117 => ldR95 a117 w115 fun s118 => K s118.v w115) (.pointer p1) (.slice l3a l3n l3c) (.pointer (some (Addr.mk b4 0 none))) (.pointer (some (Addr.mk b6 0 none))) (.pointer (some (Addr.mk b111 0 none))) w113)))) ∧ (alc (.cells ((R95.mk none 0 0 none 0 0 none 0 0)).c 96) w108 fun b119 w120 => Pres w8 w120 ∧ (∃ l121a l121n l121c, ∃ w122, Sem.run Try.prog (Instr.makeSlice 24 (.int .i64 (l10n : Int)) (.int .i64 (l10n : Int))) w120 = .ok (.slice l121a l121n l121c) w122 ∧ (Pres w8 w122 ∧ (stcL (Addr.mk b119 0 none) 0 (R95.mk l121a l121n l121c l83a l83n l83c l107a l107n l107c).l w122 fun w123 => F33_3 (fun y6_123 w125 => ∀ _g126 : Tm, rdA y6_123 fun a127 => ldR95 a127 w125 fun s128 => K s128.v w125) (.pointer p1) (.slice l3a l3n l3c) (.pointer (some (Addr.mk b4 0 none))) (.pointer (some (Addr.mk b6 0 none))) (.pointer (some (Addr.mk b119 0 none))) w123)))))))) ∧ (alc (.cells ((R95.mk none 0 0 none 0 0 none 0 0)).c 96) w84 fun b129 w130 => Pres w8 w130 ∧ (((∃ l131a l131n l131c, ∃ w132, Sem.run Try.prog (Instr.makeSlice 24 (.int .i64 (l10n : Int)) (.int .i64 (l10n : Int))) w130 = .ok (.slice l131a l131n l131c) w132 ∧ (Pres w8 w132 ∧ (∃ l133a l133n l133c, ∃ w134, Sem.run Try.prog (Instr.makeSlice 24 (.int .i64 (l14n : Int)) (.int .i64 (l14n : Int))) w132 = .ok (.slice l133a l133n l133c) w134 ∧ (Pres w8 w134 ∧ (stcL (Addr.mk b129 0 none) 0 (R95.mk l131a l131n l131c l83a l83n l83c l133a l133n l133c).l w134 fun w135 => F33_3 (fun y6_135 w137 => ∀ _g138 : Tm, rdA y6_135 fun a139 => ldR95 a139 w137 fun s140 => K s140.v w137) (.pointer p1) (.slice l3a l3n l3c) (.pointer (some (Addr.mk b4 0 none))) (.pointer (some (Addr.mk b6 0 none))) (.pointer (some (Addr.mk b129 0 none))) w135))))) ∧ (∃ l141a l141n l141c, ∃ w142, Sem.run Try.prog (Instr.makeSlice 24 (.int .i64 (l14n : Int)) (.int .i64 (l14n : Int))) w130 = .ok (.slice l141a l141n l141c) w142 ∧ (Pres w8 w142 ∧ (∃ l143a l143n l143c, ∃ w144, Sem.run Try.prog (Instr.makeSlice 24 (.int .i64 (l10n : Int)) (.int .i64 (l10n : Int))) w142 = .ok (.slice l143a l143n l143c) w144 ∧ (Pres w8 w144 ∧ (stcL (Addr.mk b129 0 none) 0 (R95.mk l143a l143n l143c l83a l83n l83c l141a l141n l141c).l w144 fun w145 => F33_3 (fun y6_145 w147 => ∀ _g148 : Tm, rdA y6_145 fun a149 => ldR95 a149 w147 fun s150 => K s150.v w147) (.pointer p1) (.slice l3a l3n l3c) (.pointer (some (Addr.mk b4 0 none))) (.pointer (some (Addr.mk b6 0 none))) (.pointer (some (Addr.mk b129 0 none))) w145))))))))))))) ∧ ((∃ l151a l151n l151c, ∃ w152, Sem.run Try.prog (Instr.makeSlice 24 (.int .i64 (l14n : Int)) (.int .i64 (l14n : Int))) w8 = .ok (.slice l151a l151n l151c) w152 ∧ (Pres w8 w152 ∧ (((∃ l153a l153n l153c, ∃ w154, Sem.run Try.prog (Instr.makeSlice 24 (.int .i64 (l10n : Int)) (.int .i64 (l10n : Int))) w152 = .ok (.slice l153a l153n l153c) w154 ∧ (Pres w8 w154 ∧ (((∃ l155a l155n l155c, ∃ w156, Sem.run Try.prog (Instr.makeSlice 24 (.int .i64 (l12n : Int)) (.int .i64 (l12n : Int))) w154 = .ok (.slice l155a l155n l155c) w156 ∧ (Pres w8 w156 ∧ (alc (.cells ((R95.mk none 0 0 none 0 0 none 0 0)).c 96) w156 fun b157 w158 => Pres w8 w158 ∧ (stcL (Addr.mk b157 0 none) 0 (R95.mk l153a l153n l153c l155a l155n l155c l151a l151n l151c).l w158 fun w159 => F33_3 (fun y6_159 w161 => ∀ _g162 : Tm, rdA y6_159 fun a163 => ldR95 a163 w161 fun s164 => K s164.v w161) (.pointer p1) (.slice l3a l3n l3c) (.pointer (some (Addr.mk b4 0 none))) (.pointer (some (Addr.mk b6 0 none))) (.pointer (some (Addr.mk b157 0 none))) w159)))) ∧ (alc (.cells ((R95.mk none 0 0 none 0 0 none 0 0)).c 96) w154 fun b165 w166 => Pres w8 w166 ∧ (∃ l167a l167n l167c, ∃ w168, Sem.run Try.prog (Instr.makeSlice 24 (.int .i64 (l12n : Int)) (.int .i64 (l12n : Int))) w166 = .ok (.slice l167a l167n l167c) w168 ∧ (Pres w8 w168 ∧ (stcL (Addr.mk b165 0 none) 0 (R95.mk l153a l153n l153c l167a l167n l167c l151a l151n l151c).l w168 fun w169 => F33_3 (fun y6_169 w171 => ∀ _g172 : Tm, rdA y6_169 fun a173 => ldR95 a173 w171 fun s174 => K s174.v w171) (.pointer p1) (.slice l3a l3n l3c) (.pointer (some (Addr.mk b4 0 none))) (.pointer (some (Addr.mk b6 0 none))) (.pointer (some (Addr.mk b165 0 none))) w169)))))))) ∧ ((∃ l175a l175n l175c, ∃ w176, Sem.run Try.prog (Instr.makeSlice 24 (.int .i64 (l12n : Int)) (.int .i64 (l12n : Int))) w152 = .ok (.slice l175a l175n l175c) w176 ∧ (Pres w8 w176 ∧ (((∃ l177a l177n l177c, ∃ w178, Sem.run Try.prog (Instr.makeSlice 24 (.int .i64 (l10n : Int)) (.int .i64 (l10n : Int))) w176 = .ok (.slice l177a l177n l177c) w178 ∧ (Pres w8 w178 ∧ (alc (.cells ((R95.mk none 0 0 none 0 0 none 0 0)).c 96) w178 fun b179 w180 => Pres w8 w180 ∧ (stcL (Addr.mk b179 0 none) 0 (R95.mk l177a l177n l177c l175a l175n l175c l151a l151n l151c).l w180 fun w181 => F33_3 (fun y6_181 w183 => ∀ _g184 : Tm, rdA y6_181 fun a185 => ldR95 a185 w183 fun s186 => K s186.v w183) (.pointer p1) (.slice l3a l3n l3c) (.pointer (some (Addr.mk b4 0 none))) (.pointer (some (Addr.mk b6 0 none))) (.pointer (some (Addr.mk b179 0 none))) w181)))) ∧ (alc (.cells ((R95.mk none 0 0 none 0 0 none 0 0)).c 96) w176 fun b187 w188 => Pres w8 w188 ∧ (∃ l189a l189n l189c, ∃ w190, Sem.run Try.prog (Instr.makeSlice 24 (.int .i64 (l10n : Int)) (.int .i64 (l10n : Int))) w188 = .ok (.slice l189a l189n l189c) w190 ∧ (Pres w8 w190 ∧ (stcL (Addr.mk b187 0 none) 0 (R95.mk l189a l189n l189c l175a l175n l175c l151a l151n l151c).l w190 fun w191 => F33_3 (fun y6_191 w193 => ∀ _g194 : Tm, rdA y6_191 fun a195 => ldR95 a195 w193 fun s196 => K s196.v w193) (.pointer p1) (.slice l3a l3n l3c) (.pointer (some (Addr.mk b4 0 none))) (.pointer (some (Addr.mk b6 0 none))) (.pointer (some (Addr.mk b187 0 none))) w191)))))))) ∧ (alc (.cells ((R95.mk none 0 0 none 0 0 none 0 0)).c 96) w152 fun b197 w198 => Pres w8 w198 ∧ (((∃ l199a l199n l199c, ∃ w200, Sem.run Try.prog (Instr.makeSlice 24 (.int .i64 (l10n : Int)) (.int .i64 (l10n : Int))) w198 = .ok (.slice l199a l199n l199c) w200 ∧ (Pres w8 w200 ∧ (∃ l201a l201n l201c, ∃ w202, Sem.run Try.prog (Instr.makeSlice 24 (.int .i64 (l12n : Int)) (.int .i64 (l12n : Int))) w200 = .ok (.slice l201a l201n l201c) w202 ∧ (Pres w8 w202 ∧ (stcL (Addr.mk b197 0 none) 0 (R95.mk l199a l199n l199c l201a l201n l201c l151a l151n l151c).l w202 fun w203 => F33_3 (fun y6_203 w205 => ∀ _g206 : Tm, rdA y6_203 fun a207 => ldR95 a207 w205 fun s208 => K s208.v w205) (.pointer p1) (.slice l3a l3n l3c) (.pointer (some (Addr.mk b4 0 none))) (.pointer (some (Addr.mk b6 0 none))) (.pointer (some (Addr.mk b197 0 none))) w203))))) ∧ (∃ l209a l209n l209c, ∃ w210, Sem.run Try.prog (Instr.makeSlice 24 (.int .i64 (l12n : Int)) (.int .i64 (l12n : Int))) w198 = .ok (.slice l209a l209n l209c) w210 ∧ (Pres w8 w210 ∧ (∃ l211a l211n l211c, ∃ w212, Sem.run Try.prog (Instr.makeSlice 24 (.int .i64 (l10n : Int)) (.int .i64 (l10n : Int))) w210 = .ok (.slice l211a l211n l211c) w212 ∧ (Pres w8 w212 ∧ (stcL (Addr.mk b197 0 none) 0 (R95.mk l211a l211n l211c l209a l209n l209c l151a l151n l151c).l w212 fun w213 => F33_3 (fun y6_213 w215 => ∀ _g216 : Tm, rdA y6_213 fun a217 => ldR95 a217 w215 fun s218 => K s218.v w215) (.pointer p1) (.slice l3a l3n l3c) (.pointer (some (Addr.mk b4 0 none))) (.pointer (some (Addr.mk b6 0 none))) (.pointer (some (Addr.mk b197 0 none))) w213))))))))))))) ∧ (alc (.cells ((R95.mk none 0 0 none 0 0 none 0 0)).c 96) w8 fun b219 w220 => Pres w8 w220 ∧ (((∃ l221a l221n l221c, ∃ w222, Sem.run Try.prog (Instr.makeSlice 24 (.int .i64 (l10n : Int)) (.int .i64 (l10n : Int))) w220 = .ok (.slice l221a l221n l221c) w222 ∧ (Pres w8 w222 ∧ (((∃ l223a l223n l223c, ∃ w224, Sem.run Try.prog (Instr.makeSlice 24 (.int .i64 (l12n : Int)) (.int .i64 (l12n : Int))) w222 = .ok (.slice l223a l223n l223c) w224 ∧ (Pres w8 w224 ∧ (∃ l225a l225n l225c, ∃ w226, Sem.run Try.prog (Instr.makeSlice 24 (.int .i64 (l14n : Int)) (.int .i64 (l14n : Int))) w224 = .ok (.slice l225a l225n l225c) w226 ∧ (Pres w8 w226 ∧ (stcL (Addr.mk b219 0 none) 0 (R95.mk l221a l221n l221c l223a l223n l223c l225a l225n l225c).l w226 fun w227 => F33_3 (fun y6_227 w229 => ∀ _g230 : Tm, rdA y6_227 fun a231 => ldR95 a231 w229 fun s232 => K s232.v w229) (.pointer p1) (.slice l3a l3n l3c) (.pointer (some (Addr.mk b4 0 none))) (.pointer (some (Addr.mk b6 0 none))) (.pointer (some (Addr.mk b219 0 none))) w227))))) ∧ (∃ l233a l233n l233c, ∃ w234, Sem.run Try.prog (Instr.makeSlice 24 (.int .i64 (l14n : Int)) (.int .i64 (l14n : Int))) w222 = .ok (.slice l233a l233n l233c) w234 ∧ (Pres w8 w234 ∧ (∃ l235a l235n l235c, ∃ w236, Sem.run Try.prog (Instr.makeSlice 24 (.int .i64 (l12n : Int)) (.int .i64 (l12n : Int))) w234 = .ok (.slice l235a l235n l235c) w236 ∧ (Pres w8 w236 ∧ (stcL (Addr.mk b219 0 none) 0 (R95.mk l221a l221n l221c l235a l235n l235c l233a l233n l233c).l w236 fun w237 => F33_3 (fun y6_237 w239 => ∀ _g240 : Tm, rdA y6_237 fun a241 => ldR95 a241 w239 fun s242 => K s242.v w239) (.pointer p1) (.slice l3a l3n l3c) (.pointer (some (Addr.mk b4 0 none))) (.pointer (some (Addr.mk b6 0 none))) (.pointer (some (Addr.mk b219 0 none))) w237))))))))) ∧ ((∃ l243a l243n l243c, ∃ w244, Sem.run Try.prog (Instr.makeSlice 24 (.int .i64 (l12n : Int)) (.int .i64 (l12n : Int))) w220 = .ok (.slice l243a l243n l243c) w244 ∧ (Pres w8 w244 ∧ (((∃ l245a l245n l245c, ∃ w246, Sem.run Try.prog (Instr.makeSlice 24 (.int .i64 (l10n : Int)) (.int .i64 (l10n : Int))) w244 = .ok (.slice l245a l245n l245c) w246 ∧ (Pres w8 w246 ∧ (∃ l247a l247n l247c, ∃ w248, Sem.run Try.prog (Instr.makeSlice 24 (.int .i64 (l14n : Int)) (.int .i64 (l14n : Int))) w246 = .ok (.slice l247a l247n l247c) w248 ∧ (Pres w8 w248 ∧ (stcL (Addr.mk b219 0 none) 0 (R95.mk l245a l245n l245c l243a l243n l243c l247a l247n l247c).l w248 fun w249 => F33_3 (fun y6_249 w251 => ∀ _g252 : Tm, rdA y6_249 fun a253 => ldR95 a253 w251 fun s254 => K s254.v w251) (.pointer p1) (.slice l3a l3n l3c) (.pointer (some (Addr.mk b4 0 none))) (.pointer (some (Addr.mk b6 0 none))) (.pointer (some (Addr.mk b219 0 none))) w249))))) ∧ (∃ l255a l255n l255c, ∃ w256, Sem.run Try.prog (Instr.makeSlice 24 (.int .i64 (l14n : Int)) (.int .i64 (l14n : Int))) w244 = .ok (.slice l255a l255n l255c) w256 ∧ (Pres w8 w256 ∧ (∃ l257a l257n l257c, ∃ w258, Sem.run Try.prog (Instr.makeSlice 24 (.int .i64 (l10n : Int)) (.int .i64 (l10n : Int))) w256 = .ok (.slice l257a l257n l257c) w258 ∧ (Pres w8 w258 ∧ (stcL (Addr.mk b219 0 none) 0 (R95.mk l257a l257n l257c l243a l243n l243c l255a l255n l255c).l w258 fun w259 => F33_3 (fun y6_259 w261 => ∀ _g262 : Tm, rdA y6_259 fun a263 => ldR95 a263 w261 fun s264 => K s264.v w261) (.pointer p1) (.slice l3a l3n l3c) (.pointer (some (Addr.mk b4 0 none))) (.pointer (some (Addr.mk b6 0 none))) (.pointer (some (Addr.mk b219 0 none))) w259))))))))) ∧ (∃ l265a l265n l265c, ∃ w266, Sem.run Try.prog (Instr.makeSlice 24 (.int .i64 (l14n : Int)) (.int .i64 (l14n : Int))) w220 = .ok (.slice l265a l265n l265c) w266 ∧ (Pres w8 w266 ∧ (((∃ l267a l267n l267c, ∃ w268, Sem.run Try.prog (Instr.makeSlice 24 (.int .i64 (l10n : Int)) (.int .i64 (l10n : Int))) w266 = .ok (.slice l267a l267n l267c) w268 ∧ (Pres w8 w268 ∧ (∃ l269a l269n l269c, ∃ w270, Sem.run Try.prog (Instr.makeSlice 24 (.int .i64 (l12n : Int)) (.int .i64 (l12n : Int))) w268 = .ok (.slice l269a l269n l269c) w270 ∧ (Pres w8 w270 ∧ (stcL (Addr.mk b219 0 none) 0 (R95.mk l267a l267n l267c l269a l269n l269c l265a l265n l265c).l w270 fun w271 => F33_3 (fun y6_271 w273 => ∀ _g274 : Tm, rdA y6_271 fun a275 => ldR95 a275 w273 fun s276 => K s276.v w273) (.pointer p1) (.slice l3a l3n l3c) (.pointer (some (Addr.mk b4 0 none))) (.pointer (some (Addr.mk b6 0 none))) (.pointer (some (Addr.mk b219 0 none))) w271))))) ∧ (∃ l277a l277n l277c, ∃ w278, Sem.run Try.prog (Instr.makeSlice 24 (.int .i64 (l12n : Int)) (.int .i64 (l12n : Int))) w266 = .ok (.slice l277a l277n l277c) w278 ∧ (Pres w8 w278 ∧ (∃ l279a l279n l279c, ∃ w280, Sem.run Try.prog (Instr.makeSlice 24 (.int .i64 (l10n : Int)) (.int .i64 (l10n : Int))) w278 = .ok (.slice l279a l279n l279c) w280 ∧ (Pres w8 w280 ∧ (stcL (Addr.mk b219 0 none) 0 (R95.mk l279a l279n l279c l277a l277n l277c l265a l265n l265c).l w280 fun w281 => F33_3 (fun y6_281 w283 => ∀ _g284 : Tm, rdA y6_281 fun a285 => ldR95 a285 w283 fun s286 => K s286.v w283) (.pointer p1) (.slice l3a l3n l3c) (.pointer (some (Addr.mk b4 0 none))) (.pointer (some (Addr.mk b6 0 none))) (.pointer (some (Addr.mk b219 0 none))) w281)))))))))))))))))
theorem F33_step (x0 : Value) (x1 : Value) (x2 : Value) (w : World) (K : Value → World → Prop) : (F33 x0 x1 x2 w K) = rsh [(0, (.one .ptr)), (1, (.agg [(.int .u8), (.int .u8), (.int .u32), (.int .u16), (.int .u16), (.int .u32), (.int .u32), (.int .u32), (.int .u16), (.int .u16), .slc, .slc, .slc, .slc, .slc])), (2, (.one .slc))] (args0 #[x0, x1, x2]) (fun t => vc Try.prog (orcOf [([0, 1, 0, 1, 1, 1, 1, 1, 1], F33_1O), ([0, 1, 0, 1, 1], F33_2O), ([1, 1], F33_3O)]) [] F33_code (retQ Try.prog Try.f33 K) t w) := by kernel_rfl
theorem F33_ok {x0 x1 x2 : Value} {w : World} {K : Value → World → Prop} (h : F33 x0 x1 x2 w K) : Calls Try.prog 33 #[x0, x1, x2] w fun e w' => ∃ v, e = .returned v ∧ K v w' := by
  rw [F33_step] at h
  exact calls_of (c := F33_code) mixed Try.func33 rfl (nlt rfl) (vc_sound mixed (orcCons (π := [0, 1, 0, 1, 1, 1, 1, 1, 1]) F33_1_ok (orcCons (π := [0, 1, 0, 1, 1]) F33_2_ok (orcCons (π := [1, 1]) F33_3_ok (orcNil F33_code)))) F33_code [] rfl F33_code_ok _ _ _ (rsh_out h))
end Go.Proofs.Ytmliokbonkndaaa
