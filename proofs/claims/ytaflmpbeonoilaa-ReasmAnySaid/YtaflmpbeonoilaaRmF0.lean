/- Own text: part of the shallow reading of the code and of the contracts that are proved over it. -/
import Derived.Test.YtaflmpbeonoilaaShO
import Derived.Test.YtaflmpbeonoilaaShNs
import Derived.Test.YtaflmpbeonoilaaProg
import Derived.KernelRfl
namespace Go.Proofs.Ytaflmpbeonoilaa
open Go Go.Sh
set_option maxRecDepth 100000
theorem mixed : Try.prog.follows .mixedOrders = true := by kernel_rfl
structure R35 where
  f0 : Int
  f1 : Int
  f2 : Int
  f3 : Int
  f4 : Int
  f5 : Int
  f6 : Int
  f7 : Int
  f8 : Int
  f9 : Int
  f10a : Option Addr
  f10n : Nat
  f10c : Nat
  f11a : Option Addr
  f11n : Nat
  f11c : Nat
  f12a : Option Addr
  f12n : Nat
  f12c : Nat
  f13a : Option Addr
  f13n : Nat
  f13c : Nat
  f14a : Option Addr
  f14n : Nat
  f14c : Nat
def R35.l (s : R35) : List Value := [.int .u8 s.f0, .int .u8 s.f1, .int .u32 s.f2, .int .u16 s.f3, .int .u16 s.f4, .int .u32 s.f5, .int .u32 s.f6, .int .u32 s.f7, .int .u16 s.f8, .int .u16 s.f9, .slice s.f10a s.f10n s.f10c, .slice s.f11a s.f11n s.f11c, .slice s.f12a s.f12n s.f12c, .slice s.f13a s.f13n s.f13c, .slice s.f14a s.f14n s.f14c]
def R35.c (s : R35) : Array Value := #[.int .u8 s.f0, .int .u8 s.f1, .int .u32 s.f2, .int .u16 s.f3, .int .u16 s.f4, .int .u32 s.f5, .int .u32 s.f6, .int .u32 s.f7, .int .u16 s.f8, .int .u16 s.f9, .slice s.f10a s.f10n s.f10c, .slice s.f11a s.f11n s.f11c, .slice s.f12a s.f12n s.f12c, .slice s.f13a s.f13n s.f13c, .slice s.f14a s.f14n s.f14c]
def R35.v (s : R35) : Value := .agg #[.int .u8 s.f0, .int .u8 s.f1, .int .u32 s.f2, .int .u16 s.f3, .int .u16 s.f4, .int .u32 s.f5, .int .u32 s.f6, .int .u32 s.f7, .int .u16 s.f8, .int .u16 s.f9, .slice s.f10a s.f10n s.f10c, .slice s.f11a s.f11n s.f11c, .slice s.f12a s.f12n s.f12c, .slice s.f13a s.f13n s.f13c, .slice s.f14a s.f14n s.f14c]
def ldR35 (a : Addr) (w : World) (K : R35 → Prop) : Prop := ldI .u8 (a.add 0) w fun f0 => ldI .u8 (a.add 1) w fun f1 => ldI .u32 (a.add 2) w fun f2 => ldI .u16 (a.add 3) w fun f3 => ldI .u16 (a.add 4) w fun f4 => ldI .u32 (a.add 5) w fun f5 => ldI .u32 (a.add 6) w fun f6 => ldI .u32 (a.add 7) w fun f7 => ldI .u16 (a.add 8) w fun f8 => ldI .u16 (a.add 9) w fun f9 => ldC (a.add 10) w fun f10a f10n f10c => ldC (a.add 11) w fun f11a f11n f11c => ldC (a.add 12) w fun f12a f12n f12c => ldC (a.add 13) w fun f13a f13n f13c => ldC (a.add 14) w fun f14a f14n f14c => K ⟨f0, f1, f2, f3, f4, f5, f6, f7, f8, f9, f10a, f10n, f10c, f11a, f11n, f11c, f12a, f12n, f12c, f13a, f13n, f13c, f14a, f14n, f14c⟩
def exR35 (K : R35 → Prop) : Prop := ∃ f0 f1 f2 f3 f4 f5 f6 f7 f8 f9 f10a f10n f10c f11a f11n f11c f12a f12n f12c f13a f13n f13c f14a f14n f14c, K ⟨f0, f1, f2, f3, f4, f5, f6, f7, f8, f9, f10a, f10n, f10c, f11a, f11n, f11c, f12a, f12n, f12c, f13a, f13n, f13c, f14a, f14n, f14c⟩
theorem exR35_of {K : R35 → Prop} (s : R35) (k : K s) : exR35 K := ⟨s.f0, s.f1, s.f2, s.f3, s.f4, s.f5, s.f6, s.f7, s.f8, s.f9, s.f10a, s.f10n, s.f10c, s.f11a, s.f11n, s.f11c, s.f12a, s.f12n, s.f12c, s.f13a, s.f13n, s.f13c, s.f14a, s.f14n, s.f14c, k⟩
theorem ldR35_of {a : Addr} {w : World} {s : R35} {K : R35 → Prop} (h : At w a s.l) (k : K s) : ldR35 a w K := (ldI_c (h 0 _ rfl) (ldI_c (h 1 _ rfl) (ldI_c (h 2 _ rfl) (ldI_c (h 3 _ rfl) (ldI_c (h 4 _ rfl) (ldI_c (h 5 _ rfl) (ldI_c (h 6 _ rfl) (ldI_c (h 7 _ rfl) (ldI_c (h 8 _ rfl) (ldI_c (h 9 _ rfl) (ldC_c (h 10 _ rfl) (ldC_c (h 11 _ rfl) (ldC_c (h 12 _ rfl) (ldC_c (h 13 _ rfl) (ldC_c (h 14 _ rfl) k)))))))))))))))
def R35.z : R35 := ⟨0, 0, 0, 0, 0, 0, 0, 0, 0, 0, none, 0, 0, none, 0, 0, none, 0, 0, none, 0, 0, none, 0, 0⟩
theorem R35.c_size (s : R35) : s.c.size = 15 := rfl
theorem R35.l_len (s : R35) : s.l.length = 15 := rfl
theorem R35.c_list (s : R35) : s.c.toList = s.l := rfl
structure R38 where
  f0 : Int
  f1 : Int
  f2 : Int
  f3 : Bool
  f4a : Option Addr
  f4n : Nat
  f4c : Nat
def R38.l (s : R38) : List Value := [.int .u16 s.f0, .int .u16 s.f1, .int .u32 s.f2, .bool s.f3, .slice s.f4a s.f4n s.f4c]
def R38.c (s : R38) : Array Value := #[.int .u16 s.f0, .int .u16 s.f1, .int .u32 s.f2, .bool s.f3, .slice s.f4a s.f4n s.f4c]
def R38.v (s : R38) : Value := .agg #[.int .u16 s.f0, .int .u16 s.f1, .int .u32 s.f2, .bool s.f3, .slice s.f4a s.f4n s.f4c]
def ldR38 (a : Addr) (w : World) (K : R38 → Prop) : Prop := ldI .u16 (a.add 0) w fun f0 => ldI .u16 (a.add 1) w fun f1 => ldI .u32 (a.add 2) w fun f2 => ldB (a.add 3) w fun f3 => ldC (a.add 4) w fun f4a f4n f4c => K ⟨f0, f1, f2, f3, f4a, f4n, f4c⟩
def exR38 (K : R38 → Prop) : Prop := ∃ f0 f1 f2 f3 f4a f4n f4c, K ⟨f0, f1, f2, f3, f4a, f4n, f4c⟩
theorem exR38_of {K : R38 → Prop} (s : R38) (k : K s) : exR38 K := ⟨s.f0, s.f1, s.f2, s.f3, s.f4a, s.f4n, s.f4c, k⟩
theorem ldR38_of {a : Addr} {w : World} {s : R38} {K : R38 → Prop} (h : At w a s.l) (k : K s) : ldR38 a w K := (ldI_c (h 0 _ rfl) (ldI_c (h 1 _ rfl) (ldI_c (h 2 _ rfl) (ldB_c (h 3 _ rfl) (ldC_c (h 4 _ rfl) k)))))
def R38.z : R38 := ⟨0, 0, 0, false, none, 0, 0⟩
theorem R38.c_size (s : R38) : s.c.size = 5 := rfl
theorem R38.l_len (s : R38) : s.l.length = 5 := rfl
theorem R38.c_list (s : R38) : s.c.toList = s.l := rfl
structure R58 where
  f0 : Int
  f1 : Int
  f2 : Int
  f3 : Int
  f4 : Int
  f5 : Int
  f6 : Int
  f7 : Int
  f8 : Int
  f9 : Int
  f10 : Int
  f11a : Option Addr
  f11n : Nat
  f11c : Nat
  f12a : Option Addr
  f12n : Nat
  f12c : Nat
  f13a : Option Addr
  f13n : Nat
  f13c : Nat
  f14a : Option Addr
  f14n : Nat
  f14c : Nat
  f15a : Option Addr
  f15n : Nat
  f15c : Nat
  f16 : Int
def R58.l (s : R58) : List Value := [.int .i64 s.f0, .int .u8 s.f1, .int .u8 s.f2, .int .u32 s.f3, .int .u16 s.f4, .int .u16 s.f5, .int .u32 s.f6, .int .u32 s.f7, .int .u32 s.f8, .int .u16 s.f9, .int .u16 s.f10, .slice s.f11a s.f11n s.f11c, .slice s.f12a s.f12n s.f12c, .slice s.f13a s.f13n s.f13c, .slice s.f14a s.f14n s.f14c, .slice s.f15a s.f15n s.f15c, .int .u32 s.f16]
def R58.c (s : R58) : Array Value := #[.int .i64 s.f0, .int .u8 s.f1, .int .u8 s.f2, .int .u32 s.f3, .int .u16 s.f4, .int .u16 s.f5, .int .u32 s.f6, .int .u32 s.f7, .int .u32 s.f8, .int .u16 s.f9, .int .u16 s.f10, .slice s.f11a s.f11n s.f11c, .slice s.f12a s.f12n s.f12c, .slice s.f13a s.f13n s.f13c, .slice s.f14a s.f14n s.f14c, .slice s.f15a s.f15n s.f15c, .int .u32 s.f16]
def R58.v (s : R58) : Value := .agg #[.int .i64 s.f0, .int .u8 s.f1, .int .u8 s.f2, .int .u32 s.f3, .int .u16 s.f4, .int .u16 s.f5, .int .u32 s.f6, .int .u32 s.f7, .int .u32 s.f8, .int .u16 s.f9, .int .u16 s.f10, .slice s.f11a s.f11n s.f11c, .slice s.f12a s.f12n s.f12c, .slice s.f13a s.f13n s.f13c, .slice s.f14a s.f14n s.f14c, .slice s.f15a s.f15n s.f15c, .int .u32 s.f16]
def ldR58 (a : Addr) (w : World) (K : R58 → Prop) : Prop := ldI .i64 (a.add 0) w fun f0 => ldI .u8 (a.add 1) w fun f1 => ldI .u8 (a.add 2) w fun f2 => ldI .u32 (a.add 3) w fun f3 => ldI .u16 (a.add 4) w fun f4 => ldI .u16 (a.add 5) w fun f5 => ldI .u32 (a.add 6) w fun f6 => ldI .u32 (a.add 7) w fun f7 => ldI .u32 (a.add 8) w fun f8 => ldI .u16 (a.add 9) w fun f9 => ldI .u16 (a.add 10) w fun f10 => ldC (a.add 11) w fun f11a f11n f11c => ldC (a.add 12) w fun f12a f12n f12c => ldC (a.add 13) w fun f13a f13n f13c => ldC (a.add 14) w fun f14a f14n f14c => ldC (a.add 15) w fun f15a f15n f15c => ldI .u32 (a.add 16) w fun f16 => K ⟨f0, f1, f2, f3, f4, f5, f6, f7, f8, f9, f10, f11a, f11n, f11c, f12a, f12n, f12c, f13a, f13n, f13c, f14a, f14n, f14c, f15a, f15n, f15c, f16⟩
def exR58 (K : R58 → Prop) : Prop := ∃ f0 f1 f2 f3 f4 f5 f6 f7 f8 f9 f10 f11a f11n f11c f12a f12n f12c f13a f13n f13c f14a f14n f14c f15a f15n f15c f16, K ⟨f0, f1, f2, f3, f4, f5, f6, f7, f8, f9, f10, f11a, f11n, f11c, f12a, f12n, f12c, f13a, f13n, f13c, f14a, f14n, f14c, f15a, f15n, f15c, f16⟩
theorem exR58_of {K : R58 → Prop} (s : R58) (k : K s) : exR58 K := ⟨s.f0, s.f1, s.f2, s.f3, s.f4, s.f5, s.f6, s.f7, s.f8, s.f9, s.f10, s.f11a, s.f11n, s.f11c, s.f12a, s.f12n, s.f12c, s.f13a, s.f13n, s.f13c, s.f14a, s.f14n, s.f14c, s.f15a, s.f15n, s.f15c, s.f16, k⟩
theorem ldR58_of {a : Addr} {w : World} {s : R58} {K : R58 → Prop} (h : At w a s.l) (k : K s) : ldR58 a w K := (ldI_c (h 0 _ rfl) (ldI_c (h 1 _ rfl) (ldI_c (h 2 _ rfl) (ldI_c (h 3 _ rfl) (ldI_c (h 4 _ rfl) (ldI_c (h 5 _ rfl) (ldI_c (h 6 _ rfl) (ldI_c (h 7 _ rfl) (ldI_c (h 8 _ rfl) (ldI_c (h 9 _ rfl) (ldI_c (h 10 _ rfl) (ldC_c (h 11 _ rfl) (ldC_c (h 12 _ rfl) (ldC_c (h 13 _ rfl) (ldC_c (h 14 _ rfl) (ldC_c (h 15 _ rfl) (ldI_c (h 16 _ rfl) k)))))))))))))))))
def R58.z : R58 := ⟨0, 0, 0, 0, 0, 0, 0, 0, 0, 0, 0, none, 0, 0, none, 0, 0, none, 0, 0, none, 0, 0, none, 0, 0, 0⟩
theorem R58.c_size (s : R58) : s.c.size = 17 := rfl
theorem R58.l_len (s : R58) : s.l.length = 17 := rfl
theorem R58.c_list (s : R58) : s.c.toList = s.l := rfl
structure R69 where
  f0 : Option Nat
  f1 : Option Nat
  f2 : Int
  f3a : Option Addr
  f3n : Nat
  f3c : Nat
  f4 : Int
  f5a : Option Addr
  f5n : Nat
  f5c : Nat
  f6a : Option Addr
  f6n : Nat
  f6c : Nat
def R69.l (s : R69) : List Value := [.map s.f0, .map s.f1, .int .i64 s.f2, .slice s.f3a s.f3n s.f3c, .int .i64 s.f4, .slice s.f5a s.f5n s.f5c, .slice s.f6a s.f6n s.f6c]
def R69.c (s : R69) : Array Value := #[.map s.f0, .map s.f1, .int .i64 s.f2, .slice s.f3a s.f3n s.f3c, .int .i64 s.f4, .slice s.f5a s.f5n s.f5c, .slice s.f6a s.f6n s.f6c]
def R69.v (s : R69) : Value := .agg #[.map s.f0, .map s.f1, .int .i64 s.f2, .slice s.f3a s.f3n s.f3c, .int .i64 s.f4, .slice s.f5a s.f5n s.f5c, .slice s.f6a s.f6n s.f6c]
def ldR69 (a : Addr) (w : World) (K : R69 → Prop) : Prop := ldM (a.add 0) w fun f0 => ldM (a.add 1) w fun f1 => ldI .i64 (a.add 2) w fun f2 => ldC (a.add 3) w fun f3a f3n f3c => ldI .i64 (a.add 4) w fun f4 => ldC (a.add 5) w fun f5a f5n f5c => ldC (a.add 6) w fun f6a f6n f6c => K ⟨f0, f1, f2, f3a, f3n, f3c, f4, f5a, f5n, f5c, f6a, f6n, f6c⟩
def exR69 (K : R69 → Prop) : Prop := ∃ f0 f1 f2 f3a f3n f3c f4 f5a f5n f5c f6a f6n f6c, K ⟨f0, f1, f2, f3a, f3n, f3c, f4, f5a, f5n, f5c, f6a, f6n, f6c⟩
theorem exR69_of {K : R69 → Prop} (s : R69) (k : K s) : exR69 K := ⟨s.f0, s.f1, s.f2, s.f3a, s.f3n, s.f3c, s.f4, s.f5a, s.f5n, s.f5c, s.f6a, s.f6n, s.f6c, k⟩
theorem ldR69_of {a : Addr} {w : World} {s : R69} {K : R69 → Prop} (h : At w a s.l) (k : K s) : ldR69 a w K := (ldM_c (h 0 _ rfl) (ldM_c (h 1 _ rfl) (ldI_c (h 2 _ rfl) (ldC_c (h 3 _ rfl) (ldI_c (h 4 _ rfl) (ldC_c (h 5 _ rfl) (ldC_c (h 6 _ rfl) k)))))))
def R69.z : R69 := ⟨none, none, 0, none, 0, 0, 0, none, 0, 0, none, 0, 0⟩
theorem R69.c_size (s : R69) : s.c.size = 7 := rfl
theorem R69.l_len (s : R69) : s.l.length = 7 := rfl
theorem R69.c_list (s : R69) : s.c.toList = s.l := rfl
structure R85 where
  f0 : Int
  f1 : Int
  f2a : Option Addr
  f2n : Nat
  f2c : Nat
  f3a : Option Addr
  f3n : Nat
  f3c : Nat
  f4a : Option Addr
  f4n : Nat
  f4c : Nat
  f5a : Option Addr
  f5n : Nat
  f5c : Nat
  f6a : Option Addr
  f6n : Nat
  f6c : Nat
def R85.l (s : R85) : List Value := [.int .i64 s.f0, .int .i64 s.f1, .slice s.f2a s.f2n s.f2c, .slice s.f3a s.f3n s.f3c, .slice s.f4a s.f4n s.f4c, .slice s.f5a s.f5n s.f5c, .slice s.f6a s.f6n s.f6c]
def R85.c (s : R85) : Array Value := #[.int .i64 s.f0, .int .i64 s.f1, .slice s.f2a s.f2n s.f2c, .slice s.f3a s.f3n s.f3c, .slice s.f4a s.f4n s.f4c, .slice s.f5a s.f5n s.f5c, .slice s.f6a s.f6n s.f6c]
def R85.v (s : R85) : Value := .agg #[.int .i64 s.f0, .int .i64 s.f1, .slice s.f2a s.f2n s.f2c, .slice s.f3a s.f3n s.f3c, .slice s.f4a s.f4n s.f4c, .slice s.f5a s.f5n s.f5c, .slice s.f6a s.f6n s.f6c]
def ldR85 (a : Addr) (w : World) (K : R85 → Prop) : Prop := ldI .i64 (a.add 0) w fun f0 => ldI .i64 (a.add 1) w fun f1 => ldC (a.add 2) w fun f2a f2n f2c => ldC (a.add 3) w fun f3a f3n f3c => ldC (a.add 4) w fun f4a f4n f4c => ldC (a.add 5) w fun f5a f5n f5c => ldC (a.add 6) w fun f6a f6n f6c => K ⟨f0, f1, f2a, f2n, f2c, f3a, f3n, f3c, f4a, f4n, f4c, f5a, f5n, f5c, f6a, f6n, f6c⟩
def exR85 (K : R85 → Prop) : Prop := ∃ f0 f1 f2a f2n f2c f3a f3n f3c f4a f4n f4c f5a f5n f5c f6a f6n f6c, K ⟨f0, f1, f2a, f2n, f2c, f3a, f3n, f3c, f4a, f4n, f4c, f5a, f5n, f5c, f6a, f6n, f6c⟩
theorem exR85_of {K : R85 → Prop} (s : R85) (k : K s) : exR85 K := ⟨s.f0, s.f1, s.f2a, s.f2n, s.f2c, s.f3a, s.f3n, s.f3c, s.f4a, s.f4n, s.f4c, s.f5a, s.f5n, s.f5c, s.f6a, s.f6n, s.f6c, k⟩
theorem ldR85_of {a : Addr} {w : World} {s : R85} {K : R85 → Prop} (h : At w a s.l) (k : K s) : ldR85 a w K := (ldI_c (h 0 _ rfl) (ldI_c (h 1 _ rfl) (ldC_c (h 2 _ rfl) (ldC_c (h 3 _ rfl) (ldC_c (h 4 _ rfl) (ldC_c (h 5 _ rfl) (ldC_c (h 6 _ rfl) k)))))))
def R85.z : R85 := ⟨0, 0, none, 0, 0, none, 0, 0, none, 0, 0, none, 0, 0, none, 0, 0⟩
theorem R85.c_size (s : R85) : s.c.size = 7 := rfl
theorem R85.l_len (s : R85) : s.l.length = 7 := rfl
theorem R85.c_list (s : R85) : s.c.toList = s.l := rfl
/-! ropewalk/ropewalklaw20.ReasmOwn -/
noncomputable def F3_code : Code := Try.f3.body.getD .skip
theorem F3_code_ok : okC Try.prog Try.f3.ntmps F3_code = true := by kernel_rfl
def F3_1C (K4 : Value → Value → Value → Value → Value → World → Prop) : Post := fun o t w => match o with | .normal => False | .exit i => (match Nat.beq i 4 with | true => K4 (t 0) (t 3) (t 6) (t 7) (t 9) w | false => False) | .ret => False
def F3_1B (R : Value → Value → Value → Value → Value → Value → Value → Value → World → Prop) (K4 : Value → Value → Value → Value → Value → World → Prop) (x0 : Value) (x3 : Value) (x6 : Value) (x7 : Value) (x9 : Value) (x12 : Value) (x106 : Value) (x107 : Value) (w : World) : Prop :=
  rdC x0 fun l1a l1n l1c => rdP x3 fun p2 => rdI .i64 x6 fun n3 => rdI .i64 x7 fun n4 => rdA x9 fun a5 => rdC x12 fun l6a l6n l6c => rdI .i64 x106 fun n7 => rdI .i64 x107 fun n8 => br (decide ((n8 : Int) < n7)) (ixS 1 l6a l6n n8 fun a9 => stc a9 (.int .u32 9) w fun w10 => R (.slice l1a l1n l1c) (.pointer p2) (.int .i64 n3) (.int .i64 n4) (.pointer (some a5)) (.slice l6a l6n l6c) (.int .i64 n7) (.int .i64 (IntKind.wrap .i64 (n8 + 1))) w10) (K4 (.slice l1a l1n l1c) (.pointer p2) (.int .i64 n3) (.int .i64 n4) (.pointer (some a5)) w)
def F3_1 (K4 : Value → Value → Value → Value → Value → World → Prop) : Nat → Value → Value → Value → Value → Value → Value → Value → Value → World → Prop
  | 0 => fun _ _ _ _ _ _ _ _ _ => False
  | n + 1 => F3_1B (F3_1 K4 n) K4
def F3_1O (Q : Post) (t : Tm) (w : World) : Prop := ∃ n, F3_1 (fun y0 y3 y6 y7 y9 w => ∀ g, rsh [(0, (.one .slc)), (3, (.one .ptr)), (6, (.one (.int .i64))), (7, (.one (.int .i64))), (9, (.one .adr))] (upds g [(0, y0), (3, y3), (6, y6), (7, y7), (9, y9)]) fun t => Q (.exit 4) t w) n (t 0) (t 3) (t 6) (t 7) (t 9) (t 12) (t 106) (t 107) w
theorem F3_1_step (K4 : Value → Value → Value → Value → Value → World → Prop) (n : Nat) (t : Tm) (w : World) : (F3_1 K4 (n + 1) (t 0) (t 3) (t 6) (t 7) (t 9) (t 12) (t 106) (t 107) w) = rsh [(0, (.one .slc)), (3, (.one .ptr)), (6, (.one (.int .i64))), (7, (.one (.int .i64))), (9, (.one .adr)), (12, (.one .slc)), (106, (.one (.int .i64))), (107, (.one (.int .i64)))] t (fun t => vc Try.prog (orcOf []) [0, 0, 1, 0, 1, 1, 1, 1, 1, 1, 1, 1, 1, 1] (getAt F3_code [0, 0, 1, 0, 1, 1, 1, 1, 1, 1, 1, 1, 1, 1]) (fun o t w => match o with | .normal => F3_1 K4 n (t 0) (t 3) (t 6) (t 7) (t 9) (t 12) (t 106) (t 107) w | .exit i => F3_1C K4 (.exit i) t w | .ret => F3_1C K4 .ret t w) t w) := by kernel_rfl
theorem F3_1_ok : ∀ Q t w, F3_1O Q t w → W Try.prog Try.f3.ntmps (getAt F3_code [0, 1, 0, 1, 1, 1, 1, 1, 1, 1, 1, 1, 1]) Q t w := by
  intro Q t w ⟨n, h⟩
  refine (W_loop (P := Try.prog) (b := getAt F3_code [0, 0, 1, 0, 1, 1, 1, 1, 1, 1, 1, 1, 1, 1]) (Q := F3_1C (fun y0 y3 y6 y7 y9 w => ∀ g, rsh [(0, (.one .slc)), (3, (.one .ptr)), (6, (.one (.int .i64))), (7, (.one (.int .i64))), (9, (.one .adr))] (upds g [(0, y0), (3, y3), (6, y6), (7, y7), (9, y9)]) fun t => Q (.exit 4) t w)) (G := fun n t w => F3_1 (fun y0 y3 y6 y7 y9 w => ∀ g, rsh [(0, (.one .slc)), (3, (.one .ptr)), (6, (.one (.int .i64))), (7, (.one (.int .i64))), (9, (.one .adr))] (upds g [(0, y0), (3, y3), (6, y6), (7, y7), (9, y9)]) fun t => Q (.exit 4) t w) n (t 0) (t 3) (t 6) (t 7) (t 9) (t 12) (t 106) (t 107) w) (fun _ _ h => h) (fun n t w h => ?_) n t w h).mono ?_
  · rw [F3_1_step] at h
    exact vc_sound mixed (orcNil F3_code) _ _ rfl (okC_at F3_code_ok [0, 0, 1, 0, 1, 1, 1, 1, 1, 1, 1, 1, 1, 1]) _ _ _ (rsh_out h)
  · intro o t w q
    cases o with
    | normal => exact q.elim
    | exit i =>
      unfold F3_1C at q
      simp only at q
      split at q
      · rename_i hi
        rw [nbeq] at hi
        subst hi
        exact out_ok [0, 3, 6, 7, 9] q
      · exact q.elim
    | ret => exact q.elim
def F3_2C (K2 : Value → Value → Value → Value → Value → World → Prop) (Kr : Value → World → Prop) : Post := fun o t w => match o with | .normal => False | .exit i => (match Nat.beq i 2 with | true => K2 (t 0) (t 3) (t 6) (t 7) (t 9) w | false => False) | .ret => Kr (t 2) w
def F3_2B (R : Value → Value → Value → Value → Value → Value → Value → World → Prop) (K2 : Value → Value → Value → Value → Value → World → Prop) (Kr : Value → World → Prop) (x0 : Value) (x3 : Value) (x6 : Value) (x7 : Value) (x9 : Value) (x84 : Value) (x85 : Value) (w : World) : Prop :=
  rdC x0 fun l1a l1n l1c => rdP x3 fun p2 => rdI .i64 x6 fun n3 => rdI .i64 x7 fun n4 => rdA x9 fun a5 => rdI .i64 x84 fun n6 => rdI .i64 x85 fun n7 => br (decide ((n7 : Int) < n6)) (drw w fun w8 => ldC (a5.add 4) w8 fun l9a l9n _ => ixS 1 l9a l9n n7 fun a10 => ldI .u8 a10 w8 fun n11 => ixS 1 l1a l1n n7 fun a12 => ldI .u8 a12 w8 fun n13 => br (n11 != n13) (Kr (.bool false) w8) (ldC (a5.add 4) w8 fun l14a l14n _ => ixS 1 l14a l14n n7 fun a15 => stc a15 (.int .u8 0) w8 fun w16 => R (.slice l1a l1n l1c) (.pointer p2) (.int .i64 n3) (.int .i64 n4) (.pointer (some a5)) (.int .i64 n6) (.int .i64 (IntKind.wrap .i64 (n7 + 1))) w16)) (K2 (.slice l1a l1n l1c) (.pointer p2) (.int .i64 n3) (.int .i64 n4) (.pointer (some a5)) w)
def F3_2 (K2 : Value → Value → Value → Value → Value → World → Prop) (Kr : Value → World → Prop) : Nat → Value → Value → Value → Value → Value → Value → Value → World → Prop
  | 0 => fun _ _ _ _ _ _ _ _ => False
  | n + 1 => F3_2B (F3_2 K2 Kr n) K2 Kr
def F3_2O (Q : Post) (t : Tm) (w : World) : Prop := ∃ n, F3_2 (fun y0 y3 y6 y7 y9 w => ∀ g, rsh [(0, (.one .slc)), (3, (.one .ptr)), (6, (.one (.int .i64))), (7, (.one (.int .i64))), (9, (.one .adr))] (upds g [(0, y0), (3, y3), (6, y6), (7, y7), (9, y9)]) fun t => Q (.exit 2) t w) (fun y2 w => ∀ g, rsh [(2, (.one .bool))] (upds g [(2, y2)]) fun t => Q .ret t w) n (t 0) (t 3) (t 6) (t 7) (t 9) (t 84) (t 85) w
theorem F3_2_step (K2 : Value → Value → Value → Value → Value → World → Prop) (Kr : Value → World → Prop) (n : Nat) (t : Tm) (w : World) : (F3_2 K2 Kr (n + 1) (t 0) (t 3) (t 6) (t 7) (t 9) (t 84) (t 85) w) = rsh [(0, (.one .slc)), (3, (.one .ptr)), (6, (.one (.int .i64))), (7, (.one (.int .i64))), (9, (.one .adr)), (84, (.one (.int .i64))), (85, (.one (.int .i64)))] t (fun t => vc Try.prog (orcOf []) [0, 0, 1, 0, 1, 1, 1, 1, 1, 1, 1, 1] (getAt F3_code [0, 0, 1, 0, 1, 1, 1, 1, 1, 1, 1, 1]) (fun o t w => match o with | .normal => F3_2 K2 Kr n (t 0) (t 3) (t 6) (t 7) (t 9) (t 84) (t 85) w | .exit i => F3_2C K2 Kr (.exit i) t w | .ret => F3_2C K2 Kr .ret t w) t w) := by kernel_rfl
theorem F3_2_ok : ∀ Q t w, F3_2O Q t w → W Try.prog Try.f3.ntmps (getAt F3_code [0, 1, 0, 1, 1, 1, 1, 1, 1, 1, 1]) Q t w := by
  intro Q t w ⟨n, h⟩
  refine (W_loop (P := Try.prog) (b := getAt F3_code [0, 0, 1, 0, 1, 1, 1, 1, 1, 1, 1, 1]) (Q := F3_2C (fun y0 y3 y6 y7 y9 w => ∀ g, rsh [(0, (.one .slc)), (3, (.one .ptr)), (6, (.one (.int .i64))), (7, (.one (.int .i64))), (9, (.one .adr))] (upds g [(0, y0), (3, y3), (6, y6), (7, y7), (9, y9)]) fun t => Q (.exit 2) t w) (fun y2 w => ∀ g, rsh [(2, (.one .bool))] (upds g [(2, y2)]) fun t => Q .ret t w)) (G := fun n t w => F3_2 (fun y0 y3 y6 y7 y9 w => ∀ g, rsh [(0, (.one .slc)), (3, (.one .ptr)), (6, (.one (.int .i64))), (7, (.one (.int .i64))), (9, (.one .adr))] (upds g [(0, y0), (3, y3), (6, y6), (7, y7), (9, y9)]) fun t => Q (.exit 2) t w) (fun y2 w => ∀ g, rsh [(2, (.one .bool))] (upds g [(2, y2)]) fun t => Q .ret t w) n (t 0) (t 3) (t 6) (t 7) (t 9) (t 84) (t 85) w) (fun _ _ h => h) (fun n t w h => ?_) n t w h).mono ?_
  · rw [F3_2_step] at h
    exact vc_sound mixed (orcNil F3_code) _ _ rfl (okC_at F3_code_ok [0, 0, 1, 0, 1, 1, 1, 1, 1, 1, 1, 1]) _ _ _ (rsh_out h)
  · intro o t w q
    cases o with
    | normal => exact q.elim
    | exit i =>
      unfold F3_2C at q
      simp only at q
      split at q
      · rename_i hi
        rw [nbeq] at hi
        subst hi
        exact out_ok [0, 3, 6, 7, 9] q
      · exact q.elim
    | ret => exact out_ok [2] q
def F3_3C (K0 : Value → Value → Value → Value → World → Prop) (Kr : Value → World → Prop) : Post := fun o t w => match o with | .normal => False | .exit i => (match Nat.beq i 0 with | true => K0 (t 0) (t 3) (t 6) (t 7) w | false => False) | .ret => Kr (t 2) w
def F3_3B (R : Value → Value → Value → Value → Value → Value → Value → World → Prop) (K0 : Value → Value → Value → Value → World → Prop) (Kr : Value → World → Prop) (x0 : Value) (x3 : Value) (x5 : Value) (x6 : Value) (x7 : Value) (x55 : Value) (x56 : Value) (w : World) : Prop :=
  rdC x0 fun l1a l1n l1c => rdP x3 fun p2 => rdC x5 fun l3a l3n l3c => rdI .i64 x6 fun n4 => rdI .i64 x7 fun n5 => rdI .i64 x55 fun n6 => rdI .i64 x56 fun n7 => br (decide ((n7 : Int) < n6)) (drw w fun w8 => ixS 1 l3a l3n n7 fun a9 => ldI .u8 a9 w8 fun n10 => ixS 1 l1a l1n n7 fun a11 => ldI .u8 a11 w8 fun n12 => br (n10 != n12) (Kr (.bool false) w8) (ixS 1 l3a l3n n7 fun a13 => ldI .u8 a13 w8 fun n14 => ixS 1 l3a l3n n7 fun a15 => stc a15 (.int .u8 (bitI .xor .u8 (if IntKind.signed .u8 then -1 else IntKind.max .u8) n14)) w8 fun w16 => R (.slice l1a l1n l1c) (.pointer p2) (.slice l3a l3n l3c) (.int .i64 n4) (.int .i64 n5) (.int .i64 n6) (.int .i64 (IntKind.wrap .i64 (n7 + 1))) w16)) (K0 (.slice l1a l1n l1c) (.pointer p2) (.int .i64 n4) (.int .i64 n5) w)
def F3_3 (K0 : Value → Value → Value → Value → World → Prop) (Kr : Value → World → Prop) : Nat → Value → Value → Value → Value → Value → Value → Value → World → Prop
  | 0 => fun _ _ _ _ _ _ _ _ => False
  | n + 1 => F3_3B (F3_3 K0 Kr n) K0 Kr
def F3_3O (Q : Post) (t : Tm) (w : World) : Prop := ∃ n, F3_3 (fun y0 y3 y6 y7 w => ∀ g, rsh [(0, (.one .slc)), (3, (.one .ptr)), (6, (.one (.int .i64))), (7, (.one (.int .i64)))] (upds g [(0, y0), (3, y3), (6, y6), (7, y7)]) fun t => Q (.exit 0) t w) (fun y2 w => ∀ g, rsh [(2, (.one .bool))] (upds g [(2, y2)]) fun t => Q .ret t w) n (t 0) (t 3) (t 5) (t 6) (t 7) (t 55) (t 56) w
theorem F3_3_step (K0 : Value → Value → Value → Value → World → Prop) (Kr : Value → World → Prop) (n : Nat) (t : Tm) (w : World) : (F3_3 K0 Kr (n + 1) (t 0) (t 3) (t 5) (t 6) (t 7) (t 55) (t 56) w) = rsh [(0, (.one .slc)), (3, (.one .ptr)), (5, (.one .slc)), (6, (.one (.int .i64))), (7, (.one (.int .i64))), (55, (.one (.int .i64))), (56, (.one (.int .i64)))] t (fun t => vc Try.prog (orcOf []) [0, 0, 1, 0, 1, 1, 1, 1, 1, 1] (getAt F3_code [0, 0, 1, 0, 1, 1, 1, 1, 1, 1]) (fun o t w => match o with | .normal => F3_3 K0 Kr n (t 0) (t 3) (t 5) (t 6) (t 7) (t 55) (t 56) w | .exit i => F3_3C K0 Kr (.exit i) t w | .ret => F3_3C K0 Kr .ret t w) t w) := by kernel_rfl
theorem F3_3_ok : ∀ Q t w, F3_3O Q t w → W Try.prog Try.f3.ntmps (getAt F3_code [0, 1, 0, 1, 1, 1, 1, 1, 1]) Q t w := by
  intro Q t w ⟨n, h⟩
  refine (W_loop (P := Try.prog) (b := getAt F3_code [0, 0, 1, 0, 1, 1, 1, 1, 1, 1]) (Q := F3_3C (fun y0 y3 y6 y7 w => ∀ g, rsh [(0, (.one .slc)), (3, (.one .ptr)), (6, (.one (.int .i64))), (7, (.one (.int .i64)))] (upds g [(0, y0), (3, y3), (6, y6), (7, y7)]) fun t => Q (.exit 0) t w) (fun y2 w => ∀ g, rsh [(2, (.one .bool))] (upds g [(2, y2)]) fun t => Q .ret t w)) (G := fun n t w => F3_3 (fun y0 y3 y6 y7 w => ∀ g, rsh [(0, (.one .slc)), (3, (.one .ptr)), (6, (.one (.int .i64))), (7, (.one (.int .i64)))] (upds g [(0, y0), (3, y3), (6, y6), (7, y7)]) fun t => Q (.exit 0) t w) (fun y2 w => ∀ g, rsh [(2, (.one .bool))] (upds g [(2, y2)]) fun t => Q .ret t w) n (t 0) (t 3) (t 5) (t 6) (t 7) (t 55) (t 56) w) (fun _ _ h => h) (fun n t w h => ?_) n t w h).mono ?_
  · rw [F3_3_step] at h
    exact vc_sound mixed (orcNil F3_code) _ _ rfl (okC_at F3_code_ok [0, 0, 1, 0, 1, 1, 1, 1, 1, 1]) _ _ _ (rsh_out h)
  · intro o t w q
    cases o with
    | normal => exact q.elim
    | exit i =>
      unfold F3_3C at q
      simp only at q
      split at q
      · rename_i hi
        rw [nbeq] at hi
        subst hi
        exact out_ok [0, 3, 6, 7] q
      · exact q.elim
    | ret => exact out_ok [2] q
def F3_4C (Kr : Value → World → Prop) : Post := fun o t w => match o with | .normal => False | .exit _ => (False) | .ret => Kr (t 2) w
def F3_4 (Kr : Value → World → Prop) (x0 : Value) (x3 : Value) (w : World) : Prop :=
  rdC x0 fun l1a l1n l1c => rdP x3 fun p2 => ∃ l3a l3n l3c, ∃ w4, Sem.run Try.prog (Instr.buildSlice 22 0 #[]) w = .ok (.slice l3a l3n l3c) w4 ∧ (∃ l5a l5n l5c w6, Sem.run Try.prog (Builtin.append_ #[22, 22] 22 #[(.slice l3a l3n l3c), (.slice l1a l1n l1c)]) w4 = .ok (.slice l5a l5n l5c) w6 ∧ (Calls Try.prog 12 #[(.int .u32 1), (.int .u8 7), (.int .u16 0), (.int .u16 0), (.slice l5a l5n l5c)] w6 fun e8 w7 => exR35 fun s9 => e8 = .returned s9.v ∧ (Calls Try.prog 11 #[(.pointer p2), s9.v] w7 fun e11 w10 => ∃ n12, e11 = .returned (.int .i64 n12) ∧ (Calls Try.prog 12 #[(.int .u32 2), (.int .u8 3), (.int .u16 0), (.int .u16 0), (.slice l5a l5n l5c)] w10 fun e14 w13 => exR35 fun s15 => e14 = .returned s15.v ∧ (Calls Try.prog 11 #[(.pointer p2), s15.v] w13 fun e17 w16 => ∃ n18, e17 = .returned (.int .i64 n18) ∧ (∃ k84 : Nat, F3_3 (fun y0_18 y3_18 y6_18 y7_18 w20 => ∀ _g21 : Tm, rdC y0_18 fun l22a l22n l22c => rdP y3_18 fun p23 => rdI .i64 y6_18 fun n24 => rdI .i64 y7_18 fun n25 => Calls Try.prog 13 #[(.pointer p23)] w20 fun e27 w26 => exR38 fun s28 => ∃ b29, e27 = .returned (.tuple #[s28.v, (.bool b29)]) ∧ (alc (.cells ((R38.mk 0 0 0 false none 0 0)).c 39) w26 fun b30 w31 => stcL (Addr.mk b30 0 none) 0 s28.l w31 fun w32 => ldC ((Addr.mk b30 0 none).add 4) w32 fun _ l33n _ => ∃ k79 : Nat, F3_2 (fun y0_33 y3_33 y6_33 y7_33 y9_33 w35 => ∀ _g36 : Tm, rdC y0_33 fun l37a l37n l37c => rdP y3_33 fun p38 => rdI .i64 y6_33 fun n39 => rdI .i64 y7_33 fun n40 => rdA y9_33 fun a41 => Calls Try.prog 14 #[(.pointer p38), (.int .u32 0)] w35 fun e43 w42 => ∃ l44a l44n l44c, e43 = .returned (.slice l44a l44n l44c) ∧ (∃ k74 : Nat, F3_1 (fun y0_44 y3_44 y6_44 y7_44 y9_44 w46 => ∀ _g47 : Tm, rdC y0_44 fun l48a l48n l48c => rdP y3_44 fun p49 => rdI .i64 y6_44 fun n50 => rdI .i64 y7_44 fun n51 => rdA y9_44 fun a52 => Calls Try.prog 13 #[(.pointer p49)] w46 fun e54 w53 => exR38 fun s55 => ∃ b56, e54 = .returned (.tuple #[s55.v, (.bool b56)]) ∧ (alc (.cells ((R38.mk 0 0 0 false none 0 0)).c 39) w53 fun b57 w58 => stcL (Addr.mk b57 0 none) 0 s55.l w58 fun w59 => br (n50 == 0) (br (n51 == 0) (ldC (a52.add 4) w59 fun _ l60n _ => br ((l60n : Int) == (l48n : Int)) (ldC ((Addr.mk b57 0 none).add 4) w59 fun l61a l61n l61c => ∃ s62, ∃ w63, Sem.run Try.prog (convert 22 9 (.slice l61a l61n l61c)) w59 = .ok (.string s62) w63 ∧ (∃ s64, ∃ w65, Sem.run Try.prog (convert 22 9 (.slice l48a l48n l48c)) w63 = .ok (.string s64) w65 ∧ (br (ByteArray.toList s62 == ByteArray.toList s64) (Calls Try.prog 14 #[(.pointer p49), (.int .u32 0)] w65 fun e67 w66 => ∃ l68a l68n l68c, e67 = .returned (.slice l68a l68n l68c) ∧ (alc (.cells #[(.int .u32 1), (.int .u32 2)] 30) w66 fun b69 w70 => Calls Try.prog 15 #[(.slice l68a l68n l68c), (.slice (some (Addr.mk b69 0 none)) 2 2)] w70 fun e72 w71 => ∃ b73, e72 = .returned (.bool b73) ∧ (Kr (.bool b73) w71))) (Kr (.bool false) w65)))) (Kr (.bool false) w59)) (Kr (.bool false) w59)) (Kr (.bool false) w59))) k74 (.slice l37a l37n l37c) (.pointer p38) (.int .i64 n39) (.int .i64 n40) (.pointer (some a41)) (.slice l44a l44n l44c) (.int .i64 (l44n : Int)) (.int .i64 0) w42)) (fun y2_74 w76 => ∀ _g77 : Tm, rdB y2_74 fun b78 => Kr (.bool b78) w76) k79 (.slice l22a l22n l22c) (.pointer p23) (.int .i64 n24) (.int .i64 n25) (.pointer (some (Addr.mk b30 0 none))) (.int .i64 (l33n : Int)) (.int .i64 0) w32)) (fun y2_79 w81 => ∀ _g82 : Tm, rdB y2_79 fun b83 => Kr (.bool b83) w81) k84 (.slice l1a l1n l1c) (.pointer p2) (.slice l5a l5n l5c) (.int .i64 n12) (.int .i64 n18) (.int .i64 (l5n : Int)) (.int .i64 0) w16))))))
def F3_4O (Q : Post) (t : Tm) (w : World) : Prop := F3_4 (fun y2 w => ∀ g, rsh [(2, (.one .bool))] (upds g [(2, y2)]) fun t => Q .ret t w) (t 0) (t 3) w
theorem F3_4_step (Kr : Value → World → Prop) (t : Tm) (w : World) : (F3_4 Kr (t 0) (t 3) w) = rsh [(0, (.one .slc)), (3, (.one .ptr))] t (fun t => vc Try.prog (orcOf [([0, 1, 0, 1, 1, 1, 1, 1, 1, 1, 1, 1, 1], F3_1O), ([0, 1, 0, 1, 1, 1, 1, 1, 1, 1, 1], F3_2O), ([0, 1, 0, 1, 1, 1, 1, 1, 1], F3_3O)]) [1, 1, 1, 1] (getAt F3_code [1, 1, 1, 1]) (F3_4C Kr) t w) := by kernel_rfl
theorem F3_4_ok : ∀ Q t w, F3_4O Q t w → W Try.prog Try.f3.ntmps (getAt F3_code [1, 1, 1, 1]) Q t w := by
  intro Q t w h
  unfold F3_4O at h
  rw [F3_4_step] at h
  refine (vc_sound mixed (orcCons (π := [0, 1, 0, 1, 1, 1, 1, 1, 1, 1, 1, 1, 1]) F3_1_ok (orcCons (π := [0, 1, 0, 1, 1, 1, 1, 1, 1, 1, 1]) F3_2_ok (orcCons (π := [0, 1, 0, 1, 1, 1, 1, 1, 1]) F3_3_ok (orcNil F3_code)))) _ _ rfl (okC_at F3_code_ok [1, 1, 1, 1]) _ _ _ (rsh_out h)).mono ?_
  intro o t w q
  cases o with
  | normal => exact q.elim
  | exit i => exact q.elim
  | ret => exact out_ok [2] q
def F3_5C (Kr : Value → World → Prop) : Post := fun o t w => match o with | .normal => False | .exit _ => (False) | .ret => Kr (t 2) w
def F3_5 (Kr : Value → World → Prop) (x0 : Value) (x3 : Value) (w : World) : Prop :=
  rdC x0 fun l1a l1n l1c => rdP x3 fun p2 => br ((l1n : Int) == 0) (Calls Try.prog 12 #[(.int .u32 1), (.int .u8 7), (.int .u16 0), (.int .u16 0), (.slice l1a l1n l1c)] w fun e4 w3 => exR35 fun s5 => e4 = .returned s5.v ∧ (Calls Try.prog 11 #[(.pointer p2), s5.v] w3 fun e7 w6 => ∃ n8, e7 = .returned (.int .i64 n8) ∧ (Kr (.bool (n8 == 201)) w6))) (br (decide (((l1n : Int) : Int) > 65531)) (Calls Try.prog 12 #[(.int .u32 1), (.int .u8 7), (.int .u16 0), (.int .u16 0), (.slice l1a l1n l1c)] w fun e10 w9 => exR35 fun s11 => e10 = .returned s11.v ∧ (Calls Try.prog 11 #[(.pointer p2), s11.v] w9 fun e13 w12 => ∃ n14, e13 = .returned (.int .i64 n14) ∧ (Kr (.bool (n14 == 201)) w12))) (F3_4 (fun y2_14 w16 => ∀ _g17 : Tm, rdB y2_14 fun b18 => Kr (.bool b18) w16) (.slice l1a l1n l1c) (.pointer p2) w))
def F3_5O (Q : Post) (t : Tm) (w : World) : Prop := F3_5 (fun y2 w => ∀ g, rsh [(2, (.one .bool))] (upds g [(2, y2)]) fun t => Q .ret t w) (t 0) (t 3) w
theorem F3_5_step (Kr : Value → World → Prop) (t : Tm) (w : World) : (F3_5 Kr (t 0) (t 3) w) = rsh [(0, (.one .slc)), (3, (.one .ptr))] t (fun t => vc Try.prog (orcOf [([0, 1, 0, 1, 1, 1, 1, 1, 1, 1, 1, 1, 1], F3_1O), ([0, 1, 0, 1, 1, 1, 1, 1, 1, 1, 1], F3_2O), ([0, 1, 0, 1, 1, 1, 1, 1, 1], F3_3O), ([1, 1, 1, 1], F3_4O)]) [1, 1, 1] (getAt F3_code [1, 1, 1]) (F3_5C Kr) t w) := by kernel_rfl
theorem F3_5_ok : ∀ Q t w, F3_5O Q t w → W Try.prog Try.f3.ntmps (getAt F3_code [1, 1, 1]) Q t w := by
  intro Q t w h
  unfold F3_5O at h
  rw [F3_5_step] at h
  refine (vc_sound mixed (orcCons (π := [0, 1, 0, 1, 1, 1, 1, 1, 1, 1, 1, 1, 1]) F3_1_ok (orcCons (π := [0, 1, 0, 1, 1, 1, 1, 1, 1, 1, 1]) F3_2_ok (orcCons (π := [0, 1, 0, 1, 1, 1, 1, 1, 1]) F3_3_ok (orcCons (π := [1, 1, 1, 1]) F3_4_ok (orcNil F3_code))))) _ _ rfl (okC_at F3_code_ok [1, 1, 1]) _ _ _ (rsh_out h)).mono ?_
  intro o t w q
  cases o with
  | normal => exact q.elim
  | exit i => exact q.elim
  | ret => exact out_ok [2] q
def F3 (x0 : Value) (w : World) (K : Value → World → Prop) : Prop :=
  rdC x0 fun l1a l1n l1c => Calls Try.prog 9 #[(.int .i64 1), (.int .i64 1073741824)] w fun e3 w2 => ∃ p4, ∃ n5, e3 = .returned (.tuple #[(.pointer p4), (.int .i64 n5)]) ∧ (br (n5 != 0) (K (.bool false) w2) (br (Option.isNone p4) (K (.bool false) w2) (Calls Try.prog 10 #[] w2 fun e7 w6 => ∃ b8, e7 = .returned (.bool b8) ∧ (br (!b8) (K (.bool false) w6) (F3_5 (fun y2_8 w10 => ∀ _g11 : Tm, rdB y2_8 fun b12 => K (.bool b12) w10) (.slice l1a l1n l1c) (.pointer p4) w6)))))
theorem F3_step (x0 : Value) (w : World) (K : Value → World → Prop) : (F3 x0 w K) = rsh [(0, (.one .slc))] (args0 #[x0]) (fun t => vc Try.prog (orcOf [([0, 1, 0, 1, 1, 1, 1, 1, 1, 1, 1, 1, 1], F3_1O), ([0, 1, 0, 1, 1, 1, 1, 1, 1, 1, 1], F3_2O), ([0, 1, 0, 1, 1, 1, 1, 1, 1], F3_3O), ([1, 1, 1, 1], F3_4O), ([1, 1, 1], F3_5O)]) [] F3_code (retQ Try.prog Try.f3 K) t w) := by kernel_rfl
theorem F3_ok {x0 : Value} {w : World} {K : Value → World → Prop} (h : F3 x0 w K) : Calls Try.prog 3 #[x0] w fun e w' => ∃ v, e = .returned v ∧ K v w' := by
  rw [F3_step] at h
  exact calls_of (c := F3_code) mixed Try.func3 rfl (nlt rfl) (vc_sound mixed (orcCons (π := [0, 1, 0, 1, 1, 1, 1, 1, 1, 1, 1, 1, 1]) F3_1_ok (orcCons (π := [0, 1, 0, 1, 1, 1, 1, 1, 1, 1, 1]) F3_2_ok (orcCons (π := [0, 1, 0, 1, 1, 1, 1, 1, 1]) F3_3_ok (orcCons (π := [1, 1, 1, 1]) F3_4_ok (orcCons (π := [1, 1, 1]) F3_5_ok (orcNil F3_code)))))) F3_code [] rfl F3_code_ok _ _ _ (rsh_out h))

/-! ropewalk/ropewalklaw20.ReasmOrders -/
noncomputable def F4_code : Code := Try.f4.body.getD .skip
theorem F4_code_ok : okC Try.prog Try.f4.ntmps F4_code = true := by kernel_rfl
def F4_1C (Kn : Value → Value → Value → Value → World → Prop) : Post := fun o t w => match o with | .normal => Kn (t 0) (t 3) (t 5) (t 6) w | .exit _ => (False) | .ret => False
def F4_1 (Kn : Value → Value → Value → Value → World → Prop) (x0 : Value) (x3 : Value) (x5 : Value) (x6 : Value) (x7 : Value) (w : World) : Prop :=
  rdC x0 fun l1a l1n l1c => rdP x3 fun p2 => rdC x5 fun l3a l3n l3c => rdI .i64 x6 fun n4 => rdA x7 fun a5 => ldB (a5.add 3) w fun b6 => br (!b6) (ldI .u16 (a5.add 0) w fun n7 => ixS 1 l3a l3n n7 fun a8 => ldI .u16 a8 w fun n9 => ixS 1 l3a l3n n7 fun a10 => stc a10 (.int .u16 (IntKind.wrap .u16 (n9 + 1))) w fun w11 => Kn (.slice l1a l1n l1c) (.pointer p2) (.slice l3a l3n l3c) (.int .i64 n4) w11) (Kn (.slice l1a l1n l1c) (.pointer p2) (.slice l3a l3n l3c) (.int .i64 n4) w)
def F4_1O (Q : Post) (t : Tm) (w : World) : Prop := F4_1 (fun y0 y3 y5 y6 w => ∀ g, rsh [(0, (.one .slc)), (3, (.one .ptr)), (5, (.one .slc)), (6, (.one (.int .i64)))] (upds g [(0, y0), (3, y3), (5, y5), (6, y6)]) fun t => Q .normal t w) (t 0) (t 3) (t 5) (t 6) (t 7) w
theorem F4_1_step (Kn : Value → Value → Value → Value → World → Prop) (t : Tm) (w : World) : (F4_1 Kn (t 0) (t 3) (t 5) (t 6) (t 7) w) = rsh [(0, (.one .slc)), (3, (.one .ptr)), (5, (.one .slc)), (6, (.one (.int .i64))), (7, (.one .adr))] t (fun t => vc Try.prog (orcOf []) [1, 1, 1, 0, 0, 0, 1, 0, 0, 1, 0, 0, 1, 0, 1, 1, 1, 1] (getAt F4_code [1, 1, 1, 0, 0, 0, 1, 0, 0, 1, 0, 0, 1, 0, 1, 1, 1, 1]) (F4_1C Kn) t w) := by kernel_rfl
theorem F4_1_ok : ∀ Q t w, F4_1O Q t w → W Try.prog Try.f4.ntmps (getAt F4_code [1, 1, 1, 0, 0, 0, 1, 0, 0, 1, 0, 0, 1, 0, 1, 1, 1, 1]) Q t w := by
  intro Q t w h
  unfold F4_1O at h
  rw [F4_1_step] at h
  refine (vc_sound mixed (orcNil F4_code) _ _ rfl (okC_at F4_code_ok [1, 1, 1, 0, 0, 0, 1, 0, 0, 1, 0, 0, 1, 0, 1, 1, 1, 1]) _ _ _ (rsh_out h)).mono ?_
  intro o t w q
  cases o with
  | normal => exact out_ok [0, 3, 5, 6] q
  | exit i => exact q.elim
  | ret => exact q.elim
def F4_2C (K2 : Value → Value → Value → Value → World → Prop) (Kr : Value → World → Prop) : Post := fun o t w => match o with | .normal => False | .exit i => (match Nat.beq i 2 with | true => K2 (t 0) (t 3) (t 5) (t 6) w | false => False) | .ret => Kr (t 2) w
def F4_2B (R : Value → Value → Value → Value → World → Prop) (K2 : Value → Value → Value → Value → World → Prop) (Kr : Value → World → Prop) (x0 : Value) (x3 : Value) (x5 : Value) (x6 : Value) (w : World) : Prop :=
  rdC x0 fun l1a l1n l1c => rdP x3 fun p2 => rdC x5 fun l3a l3n l3c => rdI .i64 x6 fun n4 => Calls Try.prog 13 #[(.pointer p2)] w fun e6 w5 => exR38 fun s7 => ∃ b8, e6 = .returned (.tuple #[s7.v, (.bool b8)]) ∧ (alc (.cells ((R38.mk 0 0 0 false none 0 0)).c 39) w5 fun b9 w10 => stcL (Addr.mk b9 0 none) 0 s7.l w10 fun w11 => br (!b8) (K2 (.slice l1a l1n l1c) (.pointer p2) (.slice l3a l3n l3c) (.int .i64 n4) w11) (drw w11 fun w12 => ldI .u16 ((Addr.mk b9 0 none).add 0) w12 fun n13 => br (decide ((n13 : Int) > 3)) (Kr (.bool false) w12) (ldB ((Addr.mk b9 0 none).add 3) w12 fun b14 => br b14 (ldI .u16 ((Addr.mk b9 0 none).add 1) w12 fun n15 => br (n15 != 0) (Kr (.bool false) w12) (ldB ((Addr.mk b9 0 none).add 3) w12 fun b16 => br (!b16) (ldI .u16 ((Addr.mk b9 0 none).add 1) w12 fun n17 => ldI .u16 ((Addr.mk b9 0 none).add 0) w12 fun n18 => ixS 1 l3a l3n n18 fun a19 => ldI .u16 a19 w12 fun n20 => br (n17 != n20) (Kr (.bool false) w12) (ldC ((Addr.mk b9 0 none).add 4) w12 fun _ l21n _ => br ((l21n : Int) == 0) (Kr (.bool false) w12) (F4_1 (fun y0_21 y3_21 y5_21 y6_21 w23 => ∀ _g24 : Tm, rdC y0_21 fun l25a l25n l25c => rdP y3_21 fun p26 => rdC y5_21 fun l27a l27n l27c => rdI .i64 y6_21 fun n28 => R (.slice l25a l25n l25c) (.pointer p26) (.slice l27a l27n l27c) (.int .i64 n28) w23) (.slice l1a l1n l1c) (.pointer p2) (.slice l3a l3n l3c) (.int .i64 n4) (.pointer (some (Addr.mk b9 0 none))) w12))) (ldC ((Addr.mk b9 0 none).add 4) w12 fun _ l29n _ => br ((l29n : Int) == 0) (Kr (.bool false) w12) (F4_1 (fun y0_29 y3_29 y5_29 y6_29 w31 => ∀ _g32 : Tm, rdC y0_29 fun l33a l33n l33c => rdP y3_29 fun p34 => rdC y5_29 fun l35a l35n l35c => rdI .i64 y6_29 fun n36 => R (.slice l33a l33n l33c) (.pointer p34) (.slice l35a l35n l35c) (.int .i64 n36) w31) (.slice l1a l1n l1c) (.pointer p2) (.slice l3a l3n l3c) (.int .i64 n4) (.pointer (some (Addr.mk b9 0 none))) w12)))) (ldB ((Addr.mk b9 0 none).add 3) w12 fun b37 => br (!b37) (ldI .u16 ((Addr.mk b9 0 none).add 1) w12 fun n38 => ldI .u16 ((Addr.mk b9 0 none).add 0) w12 fun n39 => ixS 1 l3a l3n n39 fun a40 => ldI .u16 a40 w12 fun n41 => br (n38 != n41) (Kr (.bool false) w12) (ldC ((Addr.mk b9 0 none).add 4) w12 fun _ l42n _ => br ((l42n : Int) == 0) (Kr (.bool false) w12) (F4_1 (fun y0_42 y3_42 y5_42 y6_42 w44 => ∀ _g45 : Tm, rdC y0_42 fun l46a l46n l46c => rdP y3_42 fun p47 => rdC y5_42 fun l48a l48n l48c => rdI .i64 y6_42 fun n49 => R (.slice l46a l46n l46c) (.pointer p47) (.slice l48a l48n l48c) (.int .i64 n49) w44) (.slice l1a l1n l1c) (.pointer p2) (.slice l3a l3n l3c) (.int .i64 n4) (.pointer (some (Addr.mk b9 0 none))) w12))) (ldC ((Addr.mk b9 0 none).add 4) w12 fun _ l50n _ => br ((l50n : Int) == 0) (Kr (.bool false) w12) (F4_1 (fun y0_50 y3_50 y5_50 y6_50 w52 => ∀ _g53 : Tm, rdC y0_50 fun l54a l54n l54c => rdP y3_50 fun p55 => rdC y5_50 fun l56a l56n l56c => rdI .i64 y6_50 fun n57 => R (.slice l54a l54n l54c) (.pointer p55) (.slice l56a l56n l56c) (.int .i64 n57) w52) (.slice l1a l1n l1c) (.pointer p2) (.slice l3a l3n l3c) (.int .i64 n4) (.pointer (some (Addr.mk b9 0 none))) w12))))))
def F4_2 (K2 : Value → Value → Value → Value → World → Prop) (Kr : Value → World → Prop) : Nat → Value → Value → Value → Value → World → Prop
  | 0 => fun _ _ _ _ _ => False
  | n + 1 => F4_2B (F4_2 K2 Kr n) K2 Kr
def F4_2O (Q : Post) (t : Tm) (w : World) : Prop := ∃ n, F4_2 (fun y0 y3 y5 y6 w => ∀ g, rsh [(0, (.one .slc)), (3, (.one .ptr)), (5, (.one .slc)), (6, (.one (.int .i64)))] (upds g [(0, y0), (3, y3), (5, y5), (6, y6)]) fun t => Q (.exit 2) t w) (fun y2 w => ∀ g, rsh [(2, (.one .bool))] (upds g [(2, y2)]) fun t => Q .ret t w) n (t 0) (t 3) (t 5) (t 6) w
theorem F4_2_step (K2 : Value → Value → Value → Value → World → Prop) (Kr : Value → World → Prop) (n : Nat) (t : Tm) (w : World) : (F4_2 K2 Kr (n + 1) (t 0) (t 3) (t 5) (t 6) w) = rsh [(0, (.one .slc)), (3, (.one .ptr)), (5, (.one .slc)), (6, (.one (.int .i64)))] t (fun t => vc Try.prog (orcOf [([1, 1, 1, 0, 0, 0, 1, 0, 0, 1, 0, 0, 1, 0, 1, 1, 1, 1], F4_1O)]) [0, 0, 1, 0, 0, 1, 0, 0, 1, 0, 1, 1, 1, 1] (getAt F4_code [0, 0, 1, 0, 0, 1, 0, 0, 1, 0, 1, 1, 1, 1]) (fun o t w => match o with | .normal => F4_2 K2 Kr n (t 0) (t 3) (t 5) (t 6) w | .exit i => F4_2C K2 Kr (.exit i) t w | .ret => F4_2C K2 Kr .ret t w) t w) := by kernel_rfl
theorem F4_2_ok : ∀ Q t w, F4_2O Q t w → W Try.prog Try.f4.ntmps (getAt F4_code [0, 1, 0, 0, 1, 0, 0, 1, 0, 1, 1, 1, 1]) Q t w := by
  intro Q t w ⟨n, h⟩
  refine (W_loop (P := Try.prog) (b := getAt F4_code [0, 0, 1, 0, 0, 1, 0, 0, 1, 0, 1, 1, 1, 1]) (Q := F4_2C (fun y0 y3 y5 y6 w => ∀ g, rsh [(0, (.one .slc)), (3, (.one .ptr)), (5, (.one .slc)), (6, (.one (.int .i64)))] (upds g [(0, y0), (3, y3), (5, y5), (6, y6)]) fun t => Q (.exit 2) t w) (fun y2 w => ∀ g, rsh [(2, (.one .bool))] (upds g [(2, y2)]) fun t => Q .ret t w)) (G := fun n t w => F4_2 (fun y0 y3 y5 y6 w => ∀ g, rsh [(0, (.one .slc)), (3, (.one .ptr)), (5, (.one .slc)), (6, (.one (.int .i64)))] (upds g [(0, y0), (3, y3), (5, y5), (6, y6)]) fun t => Q (.exit 2) t w) (fun y2 w => ∀ g, rsh [(2, (.one .bool))] (upds g [(2, y2)]) fun t => Q .ret t w) n (t 0) (t 3) (t 5) (t 6) w) (fun _ _ h => h) (fun n t w h => ?_) n t w h).mono ?_
  · rw [F4_2_step] at h
    exact vc_sound mixed (orcCons (π := [1, 1, 1, 0, 0, 0, 1, 0, 0, 1, 0, 0, 1, 0, 1, 1, 1, 1]) F4_1_ok (orcNil F4_code)) _ _ rfl (okC_at F4_code_ok [0, 0, 1, 0, 0, 1, 0, 0, 1, 0, 1, 1, 1, 1]) _ _ _ (rsh_out h)
  · intro o t w q
    cases o with
    | normal => exact q.elim
    | exit i =>
      unfold F4_2C at q
      simp only at q
      split at q
      · rename_i hi
        rw [nbeq] at hi
        subst hi
        exact out_ok [0, 3, 5, 6] q
      · exact q.elim
    | ret => exact out_ok [2] q
def F4_3C (K0 : Value → World → Prop) (Kr : Value → World → Prop) : Post := fun o t w => match o with | .normal => False | .exit i => (match Nat.beq i 0 with | true => K0 (t 3) w | false => False) | .ret => Kr (t 2) w
def F4_3B (R : Value → Value → Value → Value → World → Prop) (K0 : Value → World → Prop) (Kr : Value → World → Prop) (x0 : Value) (x3 : Value) (x5 : Value) (x6 : Value) (w : World) : Prop :=
  rdC x0 fun l1a l1n l1c => rdP x3 fun p2 => rdC x5 fun l3a l3n l3c => rdI .i64 x6 fun n4 => br (decide ((n4 : Int) < (l1n : Int))) (ixS 15 l1a l1n n4 fun a5 => ldR35 a5 w fun s6 => Calls Try.prog 11 #[(.pointer p2), s6.v] w fun e8 w7 => ∃ n9, e8 = .returned (.int .i64 n9) ∧ (∃ k21 : Nat, F4_2 (fun y0_9 y3_9 y5_9 y6_9 w11 => ∀ _g12 : Tm, rdC y0_9 fun l13a l13n l13c => rdP y3_9 fun p14 => rdC y5_9 fun l15a l15n l15c => rdI .i64 y6_9 fun n16 => R (.slice l13a l13n l13c) (.pointer p14) (.slice l15a l15n l15c) (.int .i64 (IntKind.wrap .i64 (n16 + 1))) w11) (fun y2_16 w18 => ∀ _g19 : Tm, rdB y2_16 fun b20 => Kr (.bool b20) w18) k21 (.slice l1a l1n l1c) (.pointer p2) (.slice l3a l3n l3c) (.int .i64 n4) w7)) (K0 (.pointer p2) w)
def F4_3 (K0 : Value → World → Prop) (Kr : Value → World → Prop) : Nat → Value → Value → Value → Value → World → Prop
  | 0 => fun _ _ _ _ _ => False
  | n + 1 => F4_3B (F4_3 K0 Kr n) K0 Kr
def F4_3O (Q : Post) (t : Tm) (w : World) : Prop := ∃ n, F4_3 (fun y3 w => ∀ g, rsh [(3, (.one .ptr))] (upds g [(3, y3)]) fun t => Q (.exit 0) t w) (fun y2 w => ∀ g, rsh [(2, (.one .bool))] (upds g [(2, y2)]) fun t => Q .ret t w) n (t 0) (t 3) (t 5) (t 6) w
theorem F4_3_step (K0 : Value → World → Prop) (Kr : Value → World → Prop) (n : Nat) (t : Tm) (w : World) : (F4_3 K0 Kr (n + 1) (t 0) (t 3) (t 5) (t 6) w) = rsh [(0, (.one .slc)), (3, (.one .ptr)), (5, (.one .slc)), (6, (.one (.int .i64)))] t (fun t => vc Try.prog (orcOf [([1, 1, 1, 0, 0, 0, 1, 0, 0, 1, 0, 0, 1, 0, 1, 1, 1, 1], F4_1O), ([0, 1, 0, 0, 1, 0, 0, 1, 0, 1, 1, 1, 1], F4_2O)]) [0, 0, 1, 0, 1, 1, 1, 1] (getAt F4_code [0, 0, 1, 0, 1, 1, 1, 1]) (fun o t w => match o with | .normal => F4_3 K0 Kr n (t 0) (t 3) (t 5) (t 6) w | .exit i => F4_3C K0 Kr (.exit i) t w | .ret => F4_3C K0 Kr .ret t w) t w) := by kernel_rfl
theorem F4_3_ok : ∀ Q t w, F4_3O Q t w → W Try.prog Try.f4.ntmps (getAt F4_code [0, 1, 0, 1, 1, 1, 1]) Q t w := by
  intro Q t w ⟨n, h⟩
  refine (W_loop (P := Try.prog) (b := getAt F4_code [0, 0, 1, 0, 1, 1, 1, 1]) (Q := F4_3C (fun y3 w => ∀ g, rsh [(3, (.one .ptr))] (upds g [(3, y3)]) fun t => Q (.exit 0) t w) (fun y2 w => ∀ g, rsh [(2, (.one .bool))] (upds g [(2, y2)]) fun t => Q .ret t w)) (G := fun n t w => F4_3 (fun y3 w => ∀ g, rsh [(3, (.one .ptr))] (upds g [(3, y3)]) fun t => Q (.exit 0) t w) (fun y2 w => ∀ g, rsh [(2, (.one .bool))] (upds g [(2, y2)]) fun t => Q .ret t w) n (t 0) (t 3) (t 5) (t 6) w) (fun _ _ h => h) (fun n t w h => ?_) n t w h).mono ?_
  · rw [F4_3_step] at h
    exact vc_sound mixed (orcCons (π := [1, 1, 1, 0, 0, 0, 1, 0, 0, 1, 0, 0, 1, 0, 1, 1, 1, 1]) F4_1_ok (orcCons (π := [0, 1, 0, 0, 1, 0, 0, 1, 0, 1, 1, 1, 1]) F4_2_ok (orcNil F4_code))) _ _ rfl (okC_at F4_code_ok [0, 0, 1, 0, 1, 1, 1, 1]) _ _ _ (rsh_out h)
  · intro o t w q
    cases o with
    | normal => exact q.elim
    | exit i =>
      unfold F4_3C at q
      simp only at q
      split at q
      · rename_i hi
        rw [nbeq] at hi
        subst hi
        exact out_ok [3] q
      · exact q.elim
    | ret => exact out_ok [2] q
def F4_4C (Kr : Value → World → Prop) : Post := fun o t w => match o with | .normal => False | .exit _ => (False) | .ret => Kr (t 2) w
def F4_4 (Kr : Value → World → Prop) (x0 : Value) (x3 : Value) (w : World) : Prop :=
  rdC x0 fun l1a l1n l1c => rdP x3 fun p2 => ∃ l3a l3n l3c, ∃ w4, Sem.run Try.prog (Instr.makeSlice 46 (.int .i64 4) (.int .i64 4)) w = .ok (.slice l3a l3n l3c) w4 ∧ (∃ k16 : Nat, F4_3 (fun y3_4 w6 => ∀ _g7 : Tm, rdP y3_4 fun p8 => Calls Try.prog 16 #[(.pointer p8)] w6 fun e10 w9 => ∃ n11, e10 = .returned (.int .i64 n11) ∧ (Kr (.bool (n11 == 0)) w9)) (fun y2_11 w13 => ∀ _g14 : Tm, rdB y2_11 fun b15 => Kr (.bool b15) w13) k16 (.slice l1a l1n l1c) (.pointer p2) (.slice l3a l3n l3c) (.int .i64 0) w4)
def F4_4O (Q : Post) (t : Tm) (w : World) : Prop := F4_4 (fun y2 w => ∀ g, rsh [(2, (.one .bool))] (upds g [(2, y2)]) fun t => Q .ret t w) (t 0) (t 3) w
theorem F4_4_step (Kr : Value → World → Prop) (t : Tm) (w : World) : (F4_4 Kr (t 0) (t 3) w) = rsh [(0, (.one .slc)), (3, (.one .ptr))] t (fun t => vc Try.prog (orcOf [([1, 1, 1, 0, 0, 0, 1, 0, 0, 1, 0, 0, 1, 0, 1, 1, 1, 1], F4_1O), ([0, 1, 0, 0, 1, 0, 0, 1, 0, 1, 1, 1, 1], F4_2O), ([0, 1, 0, 1, 1, 1, 1], F4_3O)]) [1, 1, 1] (getAt F4_code [1, 1, 1]) (F4_4C Kr) t w) := by kernel_rfl
theorem F4_4_ok : ∀ Q t w, F4_4O Q t w → W Try.prog Try.f4.ntmps (getAt F4_code [1, 1, 1]) Q t w := by
  intro Q t w h
  unfold F4_4O at h
  rw [F4_4_step] at h
  refine (vc_sound mixed (orcCons (π := [1, 1, 1, 0, 0, 0, 1, 0, 0, 1, 0, 0, 1, 0, 1, 1, 1, 1]) F4_1_ok (orcCons (π := [0, 1, 0, 0, 1, 0, 0, 1, 0, 1, 1, 1, 1]) F4_2_ok (orcCons (π := [0, 1, 0, 1, 1, 1, 1]) F4_3_ok (orcNil F4_code)))) _ _ rfl (okC_at F4_code_ok [1, 1, 1]) _ _ _ (rsh_out h)).mono ?_
  intro o t w q
  cases o with
  | normal => exact q.elim
  | exit i => exact q.elim
  | ret => exact out_ok [2] q
def F4 (x0 : Value) (w : World) (K : Value → World → Prop) : Prop :=
  rdC x0 fun l1a l1n l1c => Calls Try.prog 9 #[(.int .i64 4), (.int .i64 1073741824)] w fun e3 w2 => ∃ p4, ∃ n5, e3 = .returned (.tuple #[(.pointer p4), (.int .i64 n5)]) ∧ (br (n5 != 0) (K (.bool false) w2) (br (Option.isNone p4) (K (.bool false) w2) (Calls Try.prog 10 #[] w2 fun e7 w6 => ∃ b8, e7 = .returned (.bool b8) ∧ (br (!b8) (K (.bool false) w6) (F4_4 (fun y2_8 w10 => ∀ _g11 : Tm, rdB y2_8 fun b12 => K (.bool b12) w10) (.slice l1a l1n l1c) (.pointer p4) w6)))))
theorem F4_step (x0 : Value) (w : World) (K : Value → World → Prop) : (F4 x0 w K) = rsh [(0, (.one .slc))] (args0 #[x0]) (fun t => vc Try.prog (orcOf [([1, 1, 1, 0, 0, 0, 1, 0, 0, 1, 0, 0, 1, 0, 1, 1, 1, 1], F4_1O), ([0, 1, 0, 0, 1, 0, 0, 1, 0, 1, 1, 1, 1], F4_2O), ([0, 1, 0, 1, 1, 1, 1], F4_3O), ([1, 1, 1], F4_4O)]) [] F4_code (retQ Try.prog Try.f4 K) t w) := by kernel_rfl
theorem F4_ok {x0 : Value} {w : World} {K : Value → World → Prop} (h : F4 x0 w K) : Calls Try.prog 4 #[x0] w fun e w' => ∃ v, e = .returned v ∧ K v w' := by
  rw [F4_step] at h
  exact calls_of (c := F4_code) mixed Try.func4 rfl (nlt rfl) (vc_sound mixed (orcCons (π := [1, 1, 1, 0, 0, 0, 1, 0, 0, 1, 0, 0, 1, 0, 1, 1, 1, 1]) F4_1_ok (orcCons (π := [0, 1, 0, 0, 1, 0, 0, 1, 0, 1, 1, 1, 1]) F4_2_ok (orcCons (π := [0, 1, 0, 1, 1, 1, 1]) F4_3_ok (orcCons (π := [1, 1, 1]) F4_4_ok (orcNil F4_code))))) F4_code [] rfl F4_code_ok _ _ _ (rsh_out h))

/-! ropewalk/ropewalklaw20.ReasmAny -/
noncomputable def F5_code : Code := Try.f5.body.getD .skip
theorem F5_code_ok : okC Try.prog Try.f5.ntmps F5_code = true := by kernel_rfl
def F5_1C (K8 : Value → Value → Value → Value → World → Prop) : Post := fun o t w => match o with | .normal => False | .exit i => (match Nat.beq i 8 with | true => K8 (t 9) (t 11) (t 17) (t 19) w | false => False) | .ret => False
def F5_1B (R : Value → Value → Value → Value → Value → World → Prop) (K8 : Value → Value → Value → Value → World → Prop) (x9 : Value) (x11 : Value) (x17 : Value) (x19 : Value) (x20 : Value) (w : World) : Prop :=
  rdP x9 fun p1 => rdC x11 fun l2a l2n l2c => rdA x17 fun a3 => rdI .i64 x19 fun n4 => rdI .i64 x20 fun n5 => br (decide ((n5 : Int) ≥ 0)) (drw w fun w6 => ixS 5 l2a l2n n5 fun a7 => ldI .u16 (a7.add 0) w6 fun n8 => ldI .u16 (a3.add 0) w6 fun n9 => br ((Int.tmod n8 4) == n9) (ixS 5 l2a l2n n5 fun a10 => ldB (a10.add 3) w6 fun b11 => ldB (a3.add 3) w6 fun b12 => br (b11 == b12) (ldB (a3.add 3) w6 fun b13 => br (!b13) (((R (.pointer p1) (.slice l2a l2n l2c) (.pointer (some a3)) (.int .i64 n5) (.int .i64 (IntKind.wrap .i64 (n5 - 1))) w6) ∧ (R (.pointer p1) (.slice l2a l2n l2c) (.pointer (some a3)) (.int .i64 n5) (.int .i64 (IntKind.wrap .i64 (n5 - 1))) w6))) (ixS 5 l2a l2n n5 fun a14 => ldI .u32 (a14.add 2) w6 fun n15 => ldI .u32 (a3.add 2) w6 fun n16 => br (n15 == n16) (ixS 5 l2a l2n n5 fun a17 => ldC (a17.add 4) w6 fun l18a l18n l18c => ldC (a3.add 4) w6 fun l19a l19n l19c => ((∃ s20, ∃ w21, Sem.run Try.prog (convert 22 9 (.slice l18a l18n l18c)) w6 = .ok (.string s20) w21 ∧ (Pres w6 w21 ∧ (∃ s22, ∃ w23, Sem.run Try.prog (convert 22 9 (.slice l19a l19n l19c)) w21 = .ok (.string s22) w23 ∧ (Pres w6 w23 ∧ (br (ByteArray.toList s20 == ByteArray.toList s22) (R (.pointer p1) (.slice l2a l2n l2c) (.pointer (some a3)) (.int .i64 n5) (.int .i64 (IntKind.wrap .i64 (n5 - 1))) w23) (R (.pointer p1) (.slice l2a l2n l2c) (.pointer (some a3)) (.int .i64 n4) (.int .i64 (IntKind.wrap .i64 (n5 - 1))) w23)))))) ∧ (∃ s24, ∃ w25, Sem.run Try.prog (convert 22 9 (.slice l19a l19n l19c)) w6 = .ok (.string s24) w25 ∧ (Pres w6 w25 ∧ (∃ s26, ∃ w27, Sem.run Try.prog (convert 22 9 (.slice l18a l18n l18c)) w25 = .ok (.string s26) w27 ∧ (Pres w6 w27 ∧ (br (ByteArray.toList s26 == ByteArray.toList s24) (R (.pointer p1) (.slice l2a l2n l2c) (.pointer (some a3)) (.int .i64 n5) (.int .i64 (IntKind.wrap .i64 (n5 - 1))) w27) (R (.pointer p1) (.slice l2a l2n l2c) (.pointer (some a3)) (.int .i64 n4) (.int .i64 (IntKind.wrap .i64 (n5 - 1))) w27)))))))) (((R (.pointer p1) (.slice l2a l2n l2c) (.pointer (some a3)) (.int .i64 n4) (.int .i64 (IntKind.wrap .i64 (n5 - 1))) w6) ∧ (R (.pointer p1) (.slice l2a l2n l2c) (.pointer (some a3)) (.int .i64 n4) (.int .i64 (IntKind.wrap .i64 (n5 - 1))) w6))))) (((R (.pointer p1) (.slice l2a l2n l2c) (.pointer (some a3)) (.int .i64 n4) (.int .i64 (IntKind.wrap .i64 (n5 - 1))) w6) ∧ (R (.pointer p1) (.slice l2a l2n l2c) (.pointer (some a3)) (.int .i64 n4) (.int .i64 (IntKind.wrap .i64 (n5 - 1))) w6)))) (((R (.pointer p1) (.slice l2a l2n l2c) (.pointer (some a3)) (.int .i64 n4) (.int .i64 (IntKind.wrap .i64 (n5 - 1))) w6) ∧ (R (.pointer p1) (.slice l2a l2n l2c) (.pointer (some a3)) (.int .i64 n4) (.int .i64 (IntKind.wrap .i64 (n5 - 1))) w6)))) (K8 (.pointer p1) (.slice l2a l2n l2c) (.pointer (some a3)) (.int .i64 n4) w)
def F5_1 (K8 : Value → Value → Value → Value → World → Prop) : Nat → Value → Value → Value → Value → Value → World → Prop
  | 0 => fun _ _ _ _ _ _ => False
  | n + 1 => F5_1B (F5_1 K8 n) K8
def F5_1O (Q : Post) (t : Tm) (w : World) : Prop := ∃ n, F5_1 (fun y9 y11 y17 y19 w => ∀ g, rsh [(9, (.one .ptr)), (11, (.one .slc)), (17, (.one .adr)), (19, (.one (.int .i64)))] (upds g [(9, y9), (11, y11), (17, y17), (19, y19)]) fun t => Q (.exit 8) t w) n (t 9) (t 11) (t 17) (t 19) (t 20) w
theorem F5_1_step (K8 : Value → Value → Value → Value → World → Prop) (n : Nat) (t : Tm) (w : World) : (F5_1 K8 (n + 1) (t 9) (t 11) (t 17) (t 19) (t 20) w) = rsh [(9, (.one .ptr)), (11, (.one .slc)), (17, (.one .adr)), (19, (.one (.int .i64))), (20, (.one (.int .i64)))] t (fun t => vc Try.prog (orcOf []) [0, 0, 1, 0, 1, 1, 1, 0, 0, 0, 1, 1, 1, 1, 1, 1, 1, 1, 1, 1] (getAt F5_code [0, 0, 1, 0, 1, 1, 1, 0, 0, 0, 1, 1, 1, 1, 1, 1, 1, 1, 1, 1]) (fun o t w => match o with | .normal => F5_1 K8 n (t 9) (t 11) (t 17) (t 19) (t 20) w | .exit i => F5_1C K8 (.exit i) t w | .ret => F5_1C K8 .ret t w) t w) := by kernel_rfl
theorem F5_1_ok : ∀ Q t w, F5_1O Q t w → W Try.prog Try.f5.ntmps (getAt F5_code [0, 1, 0, 1, 1, 1, 0, 0, 0, 1, 1, 1, 1, 1, 1, 1, 1, 1, 1]) Q t w := by
  intro Q t w ⟨n, h⟩
  refine (W_loop (P := Try.prog) (b := getAt F5_code [0, 0, 1, 0, 1, 1, 1, 0, 0, 0, 1, 1, 1, 1, 1, 1, 1, 1, 1, 1]) (Q := F5_1C (fun y9 y11 y17 y19 w => ∀ g, rsh [(9, (.one .ptr)), (11, (.one .slc)), (17, (.one .adr)), (19, (.one (.int .i64)))] (upds g [(9, y9), (11, y11), (17, y17), (19, y19)]) fun t => Q (.exit 8) t w)) (G := fun n t w => F5_1 (fun y9 y11 y17 y19 w => ∀ g, rsh [(9, (.one .ptr)), (11, (.one .slc)), (17, (.one .adr)), (19, (.one (.int .i64)))] (upds g [(9, y9), (11, y11), (17, y17), (19, y19)]) fun t => Q (.exit 8) t w) n (t 9) (t 11) (t 17) (t 19) (t 20) w) (fun _ _ h => h) (fun n t w h => ?_) n t w h).mono ?_
  · rw [F5_1_step] at h
    exact vc_sound mixed (orcNil F5_code) _ _ rfl (okC_at F5_code_ok [0, 0, 1, 0, 1, 1, 1, 0, 0, 0, 1, 1, 1, 1, 1, 1, 1, 1, 1, 1]) _ _ _ (rsh_out h)
  · intro o t w q
    cases o with
    | normal => exact q.elim
    | exit i =>
      unfold F5_1C at q
      simp only at q
      split at q
      · rename_i hi
        rw [nbeq] at hi
        subst hi
        exact out_ok [9, 11, 17, 19] q
      · exact q.elim
    | ret => exact q.elim
def F5_2C (Kn : Value → Value → World → Prop) : Post := fun o t w => match o with | .normal => Kn (t 9) (t 11) w | .exit _ => (False) | .ret => False
def F5_2 (Kn : Value → Value → World → Prop) (x9 : Value) (x11 : Value) (x19 : Value) (w : World) : Prop :=
  rdP x9 fun p1 => rdC x11 fun l2a l2n l2c => rdI .i64 x19 fun n3 => ∃ l4a l4n l4c, ∃ w5, Sem.run Try.prog (Instr.buildSlice 49 0 #[]) w = .ok (.slice l4a l4n l4c) w5 ∧ (slS 5 l2a l2n l2c none (some (.int .i64 n3)) fun l6a l6n l6c => ∃ l7a l7n l7c w8, Sem.run Try.prog (Builtin.append_ #[49, 49] 49 #[(.slice l4a l4n l4c), (.slice l6a l6n l6c)]) w5 = .ok (.slice l7a l7n l7c) w8 ∧ (slS 5 l2a l2n l2c (some (.int .i64 (IntKind.wrap .i64 (n3 + 1)))) none fun l9a l9n l9c => ∃ l10a l10n l10c w11, Sem.run Try.prog (Builtin.append_ #[49, 49] 49 #[(.slice l7a l7n l7c), (.slice l9a l9n l9c)]) w8 = .ok (.slice l10a l10n l10c) w11 ∧ (Kn (.pointer p1) (.slice l10a l10n l10c) w11)))
def F5_2O (Q : Post) (t : Tm) (w : World) : Prop := F5_2 (fun y9 y11 w => ∀ g, rsh [(9, (.one .ptr)), (11, (.one .slc))] (upds g [(9, y9), (11, y11)]) fun t => Q .normal t w) (t 9) (t 11) (t 19) w
theorem F5_2_step (Kn : Value → Value → World → Prop) (t : Tm) (w : World) : (F5_2 Kn (t 9) (t 11) (t 19) w) = rsh [(9, (.one .ptr)), (11, (.one .slc)), (19, (.one (.int .i64)))] t (fun t => vc Try.prog (orcOf []) [1, 1, 1, 1, 1, 0, 0, 0, 1, 1, 1, 1, 1, 1, 1, 1, 1, 1] (getAt F5_code [1, 1, 1, 1, 1, 0, 0, 0, 1, 1, 1, 1, 1, 1, 1, 1, 1, 1]) (F5_2C Kn) t w) := by kernel_rfl
theorem F5_2_ok : ∀ Q t w, F5_2O Q t w → W Try.prog Try.f5.ntmps (getAt F5_code [1, 1, 1, 1, 1, 0, 0, 0, 1, 1, 1, 1, 1, 1, 1, 1, 1, 1]) Q t w := by
  intro Q t w h
  unfold F5_2O at h
  rw [F5_2_step] at h
  refine (vc_sound mixed (orcNil F5_code) _ _ rfl (okC_at F5_code_ok [1, 1, 1, 1, 1, 0, 0, 0, 1, 1, 1, 1, 1, 1, 1, 1, 1, 1]) _ _ _ (rsh_out h)).mono ?_
  intro o t w q
  cases o with
  | normal => exact out_ok [9, 11] q
  | exit i => exact q.elim
  | ret => exact q.elim
def F5_3C (Kn : Value → Value → Value → Value → Value → Value → Value → Value → World → Prop) : Post := fun o t w => match o with | .normal => Kn (t 0) (t 1) (t 2) (t 3) (t 9) (t 11) (t 12) (t 13) w | .exit _ => (False) | .ret => False
def F5_3 (Kn : Value → Value → Value → Value → Value → Value → Value → Value → World → Prop) (x0 : Value) (x1 : Value) (x2 : Value) (x3 : Value) (x9 : Value) (x11 : Value) (x12 : Value) (x13 : Value) (x61 : Value) (w : World) : Prop :=
  rdC x0 fun l1a l1n l1c => rdI .u32 x1 fun n2 => rdI .u8 x2 fun n3 => rdC x3 fun l4a l4n l4c => rdP x9 fun p5 => rdC x11 fun l6a l6n l6c => rdI .i64 x12 fun n7 => rdI .i64 x13 fun n8 => rdB x61 fun b9 => br b9 (ixS 5 l1a l1n n8 fun a10 => ldR38 a10 w fun s11 => alc (.cells s11.c 39) w fun b12 w13 => ∃ l14a l14n l14c w15, Sem.run Try.prog (Builtin.append_ #[49, 49] 49 #[(.slice l6a l6n l6c), (.slice (some (Addr.mk b12 0 none)) 1 1)]) w13 = .ok (.slice l14a l14n l14c) w15 ∧ (ixS 5 l1a l1n n8 fun a16 => ldC (a16.add 4) w15 fun _ l17n _ => Kn (.slice l1a l1n l1c) (.int .u32 n2) (.int .u8 n3) (.slice l4a l4n l4c) (.pointer p5) (.slice l14a l14n l14c) (.int .i64 (IntKind.wrap .i64 (n7 + (l17n : Int)))) (.int .i64 n8) w15)) (Kn (.slice l1a l1n l1c) (.int .u32 n2) (.int .u8 n3) (.slice l4a l4n l4c) (.pointer p5) (.slice l6a l6n l6c) (.int .i64 n7) (.int .i64 n8) w)
def F5_3O (Q : Post) (t : Tm) (w : World) : Prop := F5_3 (fun y0 y1 y2 y3 y9 y11 y12 y13 w => ∀ g, rsh [(0, (.one .slc)), (1, (.one (.int .u32))), (2, (.one (.int .u8))), (3, (.one .slc)), (9, (.one .ptr)), (11, (.one .slc)), (12, (.one (.int .i64))), (13, (.one (.int .i64)))] (upds g [(0, y0), (1, y1), (2, y2), (3, y3), (9, y9), (11, y11), (12, y12), (13, y13)]) fun t => Q .normal t w) (t 0) (t 1) (t 2) (t 3) (t 9) (t 11) (t 12) (t 13) (t 61) w
theorem F5_3_step (Kn : Value → Value → Value → Value → Value → Value → Value → Value → World → Prop) (t : Tm) (w : World) : (F5_3 Kn (t 0) (t 1) (t 2) (t 3) (t 9) (t 11) (t 12) (t 13) (t 61) w) = rsh [(0, (.one .slc)), (1, (.one (.int .u32))), (2, (.one (.int .u8))), (3, (.one .slc)), (9, (.one .ptr)), (11, (.one .slc)), (12, (.one (.int .i64))), (13, (.one (.int .i64))), (61, (.one .bool))] t (fun t => vc Try.prog (orcOf []) [1, 0, 0, 1, 0, 0, 1, 0, 1, 1, 1, 1, 1] (getAt F5_code [1, 0, 0, 1, 0, 0, 1, 0, 1, 1, 1, 1, 1]) (F5_3C Kn) t w) := by kernel_rfl
theorem F5_3_ok : ∀ Q t w, F5_3O Q t w → W Try.prog Try.f5.ntmps (getAt F5_code [1, 0, 0, 1, 0, 0, 1, 0, 1, 1, 1, 1, 1]) Q t w := by
  intro Q t w h
  unfold F5_3O at h
  rw [F5_3_step] at h
  refine (vc_sound mixed (orcNil F5_code) _ _ rfl (okC_at F5_code_ok [1, 0, 0, 1, 0, 0, 1, 0, 1, 1, 1, 1, 1]) _ _ _ (rsh_out h)).mono ?_
  intro o t w q
  cases o with
  | normal => exact out_ok [0, 1, 2, 3, 9, 11, 12, 13] q
  | exit i => exact q.elim
  | ret => exact q.elim
def F5_4C (Kn : Value → Value → Value → Value → Value → Value → World → Prop) : Post := fun o t w => match o with | .normal => Kn (t 3) (t 9) (t 11) (t 12) (t 14) (t 15) w | .exit _ => (False) | .ret => False
def F5_4 (Kn : Value → Value → Value → Value → Value → Value → World → Prop) (x3 : Value) (x9 : Value) (x11 : Value) (x12 : Value) (x14 : Value) (x15 : Value) (w : World) : Prop :=
  rdC x3 fun l1a l1n l1c => rdP x9 fun p2 => rdC x11 fun l3a l3n l3c => rdI .i64 x12 fun n4 => rdC x14 fun l5a l5n l5c => rdI .i64 x15 fun n6 => br (decide (((l5n : Int) : Int) > 0)) (ixS 1 l1a l1n n6 fun a7 => ldI .u16 a7 w fun n8 => nz (l5n : Int) (ixS 15 l5a l5n (Int.tmod (IntKind.wrap .i64 (n8)) (l5n : Int)) fun a9 => ldR35 a9 w fun s10 => Calls Try.prog 11 #[(.pointer p2), s10.v] w fun e12 w11 => ∃ n13, e12 = .returned (.int .i64 n13) ∧ (Kn (.slice l1a l1n l1c) (.pointer p2) (.slice l3a l3n l3c) (.int .i64 n4) (.slice l5a l5n l5c) (.int .i64 (IntKind.wrap .i64 (n6 + 1))) w11))) (Kn (.slice l1a l1n l1c) (.pointer p2) (.slice l3a l3n l3c) (.int .i64 n4) (.slice l5a l5n l5c) (.int .i64 (IntKind.wrap .i64 (n6 + 1))) w)
def F5_4O (Q : Post) (t : Tm) (w : World) : Prop := F5_4 (fun y3 y9 y11 y12 y14 y15 w => ∀ g, rsh [(3, (.one .slc)), (9, (.one .ptr)), (11, (.one .slc)), (12, (.one (.int .i64))), (14, (.one .slc)), (15, (.one (.int .i64)))] (upds g [(3, y3), (9, y9), (11, y11), (12, y12), (14, y14), (15, y15)]) fun t => Q .normal t w) (t 3) (t 9) (t 11) (t 12) (t 14) (t 15) w
theorem F5_4_step (Kn : Value → Value → Value → Value → Value → Value → World → Prop) (t : Tm) (w : World) : (F5_4 Kn (t 3) (t 9) (t 11) (t 12) (t 14) (t 15) w) = rsh [(3, (.one .slc)), (9, (.one .ptr)), (11, (.one .slc)), (12, (.one (.int .i64))), (14, (.one .slc)), (15, (.one (.int .i64)))] t (fun t => vc Try.prog (orcOf []) [1, 0, 0, 1, 0, 1, 1, 1, 1, 1, 1, 1] (getAt F5_code [1, 0, 0, 1, 0, 1, 1, 1, 1, 1, 1, 1]) (F5_4C Kn) t w) := by kernel_rfl
theorem F5_4_ok : ∀ Q t w, F5_4O Q t w → W Try.prog Try.f5.ntmps (getAt F5_code [1, 0, 0, 1, 0, 1, 1, 1, 1, 1, 1, 1]) Q t w := by
  intro Q t w h
  unfold F5_4O at h
  rw [F5_4_step] at h
  refine (vc_sound mixed (orcNil F5_code) _ _ rfl (okC_at F5_code_ok [1, 0, 0, 1, 0, 1, 1, 1, 1, 1, 1, 1]) _ _ _ (rsh_out h)).mono ?_
  intro o t w q
  cases o with
  | normal => exact out_ok [3, 9, 11, 12, 14, 15] q
  | exit i => exact q.elim
  | ret => exact q.elim
def F5_5C (K4 : Value → Value → Value → World → Prop) : Post := fun o t w => match o with | .normal => False | .exit i => (match Nat.beq i 4 with | true => K4 (t 9) (t 11) (t 12) w | false => False) | .ret => False
def F5_5B (R : Value → Value → Value → Value → Value → World → Prop) (K4 : Value → Value → Value → World → Prop) (x9 : Value) (x11 : Value) (x12 : Value) (x14 : Value) (x16 : Value) (w : World) : Prop :=
  rdP x9 fun p1 => rdC x11 fun l2a l2n l2c => rdI .i64 x12 fun n3 => rdC x14 fun l4a l4n l4c => rdI .i64 x16 fun n5 => br (decide ((n5 : Int) < (l4n : Int))) (ixS 15 l4a l4n n5 fun a6 => ldR35 a6 w fun s7 => Calls Try.prog 11 #[(.pointer p1), s7.v] w fun e9 w8 => ∃ n10, e9 = .returned (.int .i64 n10) ∧ (R (.pointer p1) (.slice l2a l2n l2c) (.int .i64 n3) (.slice l4a l4n l4c) (.int .i64 (IntKind.wrap .i64 (n5 + 1))) w8)) (K4 (.pointer p1) (.slice l2a l2n l2c) (.int .i64 n3) w)
def F5_5 (K4 : Value → Value → Value → World → Prop) : Nat → Value → Value → Value → Value → Value → World → Prop
  | 0 => fun _ _ _ _ _ _ => False
  | n + 1 => F5_5B (F5_5 K4 n) K4
def F5_5O (Q : Post) (t : Tm) (w : World) : Prop := ∃ n, F5_5 (fun y9 y11 y12 w => ∀ g, rsh [(9, (.one .ptr)), (11, (.one .slc)), (12, (.one (.int .i64)))] (upds g [(9, y9), (11, y11), (12, y12)]) fun t => Q (.exit 4) t w) n (t 9) (t 11) (t 12) (t 14) (t 16) w
theorem F5_5_step (K4 : Value → Value → Value → World → Prop) (n : Nat) (t : Tm) (w : World) : (F5_5 K4 (n + 1) (t 9) (t 11) (t 12) (t 14) (t 16) w) = rsh [(9, (.one .ptr)), (11, (.one .slc)), (12, (.one (.int .i64))), (14, (.one .slc)), (16, (.one (.int .i64)))] t (fun t => vc Try.prog (orcOf []) [0, 0, 1, 0, 1, 1, 1, 1, 1, 1, 1, 1] (getAt F5_code [0, 0, 1, 0, 1, 1, 1, 1, 1, 1, 1, 1]) (fun o t w => match o with | .normal => F5_5 K4 n (t 9) (t 11) (t 12) (t 14) (t 16) w | .exit i => F5_5C K4 (.exit i) t w | .ret => F5_5C K4 .ret t w) t w) := by kernel_rfl
theorem F5_5_ok : ∀ Q t w, F5_5O Q t w → W Try.prog Try.f5.ntmps (getAt F5_code [0, 1, 0, 1, 1, 1, 1, 1, 1, 1, 1]) Q t w := by
  intro Q t w ⟨n, h⟩
  refine (W_loop (P := Try.prog) (b := getAt F5_code [0, 0, 1, 0, 1, 1, 1, 1, 1, 1, 1, 1]) (Q := F5_5C (fun y9 y11 y12 w => ∀ g, rsh [(9, (.one .ptr)), (11, (.one .slc)), (12, (.one (.int .i64)))] (upds g [(9, y9), (11, y11), (12, y12)]) fun t => Q (.exit 4) t w)) (G := fun n t w => F5_5 (fun y9 y11 y12 w => ∀ g, rsh [(9, (.one .ptr)), (11, (.one .slc)), (12, (.one (.int .i64)))] (upds g [(9, y9), (11, y11), (12, y12)]) fun t => Q (.exit 4) t w) n (t 9) (t 11) (t 12) (t 14) (t 16) w) (fun _ _ h => h) (fun n t w h => ?_) n t w h).mono ?_
  · rw [F5_5_step] at h
    exact vc_sound mixed (orcNil F5_code) _ _ rfl (okC_at F5_code_ok [0, 0, 1, 0, 1, 1, 1, 1, 1, 1, 1, 1]) _ _ _ (rsh_out h)
  · intro o t w q
    cases o with
    | normal => exact q.elim
    | exit i =>
      unfold F5_5C at q
      simp only at q
      split at q
      · rename_i hi
        rw [nbeq] at hi
        subst hi
        exact out_ok [9, 11, 12] q
      · exact q.elim
    | ret => exact q.elim
def F5_6C (Kr : Value → World → Prop) : Post := fun o t w => match o with | .normal => False | .exit _ => (False) | .ret => Kr (t 8) w
def F5_6B (R : Value → Value → World → Prop) (Kr : Value → World → Prop) (x9 : Value) (x11 : Value) (w : World) : Prop :=
  rdP x9 fun p1 => rdC x11 fun l2a l2n l2c => Calls Try.prog 13 #[(.pointer p1)] w fun e4 w3 => exR38 fun s5 => ∃ b6, e4 = .returned (.tuple #[s5.v, (.bool b6)]) ∧ (alc (.cells ((R38.mk 0 0 0 false none 0 0)).c 39) w3 fun b7 w8 => stcL (Addr.mk b7 0 none) 0 s5.l w8 fun w9 => br (!b6) (br ((l2n : Int) == 0) (Calls Try.prog 18 #[(.pointer p1)] w9 fun e11 w10 => ∃ n12, e11 = .returned (.int .i64 n12) ∧ (Kr (.bool (n12 == 0)) w10)) (Kr (.bool false) w9)) (∃ k45 : Nat, F5_1 (fun y9_12 y11_12 y17_12 y19_12 w14 => ∀ _g15 : Tm, rdP y9_12 fun p16 => rdC y11_12 fun l17a l17n l17c => rdA y17_12 fun a18 => rdI .i64 y19_12 fun n19 => drw w14 fun w20 => br (decide ((n19 : Int) < 0)) (((Kr (.bool false) w20) ∧ (Kr (.bool false) w20))) (ixS 5 l17a l17n n19 fun a21 => ldI .u32 (a21.add 2) w20 fun n22 => ldI .u32 (a18.add 2) w20 fun n23 => br (n22 != n23) (((Kr (.bool false) w20) ∧ (Kr (.bool false) w20))) (ixS 5 l17a l17n n19 fun a24 => ldC (a24.add 4) w20 fun l25a l25n l25c => ldC (a18.add 4) w20 fun l26a l26n l26c => ((∃ s27, ∃ w28, Sem.run Try.prog (convert 22 9 (.slice l25a l25n l25c)) w20 = .ok (.string s27) w28 ∧ (Pres w20 w28 ∧ (∃ s29, ∃ w30, Sem.run Try.prog (convert 22 9 (.slice l26a l26n l26c)) w28 = .ok (.string s29) w30 ∧ (Pres w20 w30 ∧ (br (!(ByteArray.toList s27 == ByteArray.toList s29)) (Kr (.bool false) w30) (F5_2 (fun y9_30 y11_30 w32 => ∀ _g33 : Tm, rdP y9_30 fun p34 => rdC y11_30 fun l35a l35n l35c => R (.pointer p34) (.slice l35a l35n l35c) w32) (.pointer p16) (.slice l17a l17n l17c) (.int .i64 n19) w30)))))) ∧ (∃ s36, ∃ w37, Sem.run Try.prog (convert 22 9 (.slice l26a l26n l26c)) w20 = .ok (.string s36) w37 ∧ (Pres w20 w37 ∧ (∃ s38, ∃ w39, Sem.run Try.prog (convert 22 9 (.slice l25a l25n l25c)) w37 = .ok (.string s38) w39 ∧ (Pres w20 w39 ∧ (br (!(ByteArray.toList s38 == ByteArray.toList s36)) (Kr (.bool false) w39) (F5_2 (fun y9_39 y11_39 w41 => ∀ _g42 : Tm, rdP y9_39 fun p43 => rdC y11_39 fun l44a l44n l44c => R (.pointer p43) (.slice l44a l44n l44c) w41) (.pointer p16) (.slice l17a l17n l17c) (.int .i64 n19) w39)))))))))) k45 (.pointer p1) (.slice l2a l2n l2c) (.pointer (some (Addr.mk b7 0 none))) (.int .i64 (-1)) (.int .i64 (IntKind.wrap .i64 ((l2n : Int) - 1))) w9))
def F5_6 (Kr : Value → World → Prop) : Nat → Value → Value → World → Prop
  | 0 => fun _ _ _ => False
  | n + 1 => F5_6B (F5_6 Kr n) Kr
def F5_6O (Q : Post) (t : Tm) (w : World) : Prop := ∃ n, F5_6 (fun y8 w => ∀ g, rsh [(8, (.one .bool))] (upds g [(8, y8)]) fun t => Q .ret t w) n (t 9) (t 11) w
theorem F5_6_step (Kr : Value → World → Prop) (n : Nat) (t : Tm) (w : World) : (F5_6 Kr (n + 1) (t 9) (t 11) w) = rsh [(9, (.one .ptr)), (11, (.one .slc))] t (fun t => vc Try.prog (orcOf [([0, 1, 0, 1, 1, 1, 0, 0, 0, 1, 1, 1, 1, 1, 1, 1, 1, 1, 1], F5_1O), ([1, 1, 1, 1, 1, 0, 0, 0, 1, 1, 1, 1, 1, 1, 1, 1, 1, 1], F5_2O)]) [0, 0, 1, 1, 1, 1, 1, 1, 1, 1, 1, 1] (getAt F5_code [0, 0, 1, 1, 1, 1, 1, 1, 1, 1, 1, 1]) (fun o t w => match o with | .normal => F5_6 Kr n (t 9) (t 11) w | .exit i => F5_6C Kr (.exit i) t w | .ret => F5_6C Kr .ret t w) t w) := by kernel_rfl
theorem F5_6_ok : ∀ Q t w, F5_6O Q t w → W Try.prog Try.f5.ntmps (getAt F5_code [0, 1, 1, 1, 1, 1, 1, 1, 1, 1, 1]) Q t w := by
  intro Q t w ⟨n, h⟩
  refine (W_loop (P := Try.prog) (b := getAt F5_code [0, 0, 1, 1, 1, 1, 1, 1, 1, 1, 1, 1]) (Q := F5_6C (fun y8 w => ∀ g, rsh [(8, (.one .bool))] (upds g [(8, y8)]) fun t => Q .ret t w)) (G := fun n t w => F5_6 (fun y8 w => ∀ g, rsh [(8, (.one .bool))] (upds g [(8, y8)]) fun t => Q .ret t w) n (t 9) (t 11) w) (fun _ _ h => h) (fun n t w h => ?_) n t w h).mono ?_
  · rw [F5_6_step] at h
    exact vc_sound mixed (orcCons (π := [0, 1, 0, 1, 1, 1, 0, 0, 0, 1, 1, 1, 1, 1, 1, 1, 1, 1, 1]) F5_1_ok (orcCons (π := [1, 1, 1, 1, 1, 0, 0, 0, 1, 1, 1, 1, 1, 1, 1, 1, 1, 1]) F5_2_ok (orcNil F5_code))) _ _ rfl (okC_at F5_code_ok [0, 0, 1, 1, 1, 1, 1, 1, 1, 1, 1, 1]) _ _ _ (rsh_out h)
  · intro o t w q
    cases o with
    | normal => exact q.elim
    | exit i => exact q.elim
    | ret => exact out_ok [8] q
def F5_7C (K2 : Value → Value → Value → Value → World → Prop) : Post := fun o t w => match o with | .normal => False | .exit i => (match Nat.beq i 2 with | true => K2 (t 9) (t 11) (t 12) (t 14) w | false => False) | .ret => False
def F5_7B (R : Value → Value → Value → Value → Value → Value → World → Prop) (K2 : Value → Value → Value → Value → World → Prop) (x3 : Value) (x9 : Value) (x11 : Value) (x12 : Value) (x14 : Value) (x15 : Value) (w : World) : Prop :=
  rdC x3 fun l1a l1n l1c => rdP x9 fun p2 => rdC x11 fun l3a l3n l3c => rdI .i64 x12 fun n4 => rdC x14 fun l5a l5n l5c => rdI .i64 x15 fun n6 => br (decide ((n6 : Int) < (l1n : Int))) (br (decide ((n6 : Int) < 2000)) (F5_4 (fun y3_6 y9_6 y11_6 y12_6 y14_6 y15_6 w8 => ∀ _g9 : Tm, rdC y3_6 fun l10a l10n l10c => rdP y9_6 fun p11 => rdC y11_6 fun l12a l12n l12c => rdI .i64 y12_6 fun n13 => rdC y14_6 fun l14a l14n l14c => rdI .i64 y15_6 fun n15 => R (.slice l10a l10n l10c) (.pointer p11) (.slice l12a l12n l12c) (.int .i64 n13) (.slice l14a l14n l14c) (.int .i64 n15) w8) (.slice l1a l1n l1c) (.pointer p2) (.slice l3a l3n l3c) (.int .i64 n4) (.slice l5a l5n l5c) (.int .i64 n6) w) (K2 (.pointer p2) (.slice l3a l3n l3c) (.int .i64 n4) (.slice l5a l5n l5c) w)) (K2 (.pointer p2) (.slice l3a l3n l3c) (.int .i64 n4) (.slice l5a l5n l5c) w)
def F5_7 (K2 : Value → Value → Value → Value → World → Prop) : Nat → Value → Value → Value → Value → Value → Value → World → Prop
  | 0 => fun _ _ _ _ _ _ _ => False
  | n + 1 => F5_7B (F5_7 K2 n) K2
def F5_7O (Q : Post) (t : Tm) (w : World) : Prop := ∃ n, F5_7 (fun y9 y11 y12 y14 w => ∀ g, rsh [(9, (.one .ptr)), (11, (.one .slc)), (12, (.one (.int .i64))), (14, (.one .slc))] (upds g [(9, y9), (11, y11), (12, y12), (14, y14)]) fun t => Q (.exit 2) t w) n (t 3) (t 9) (t 11) (t 12) (t 14) (t 15) w
theorem F5_7_step (K2 : Value → Value → Value → Value → World → Prop) (n : Nat) (t : Tm) (w : World) : (F5_7 K2 (n + 1) (t 3) (t 9) (t 11) (t 12) (t 14) (t 15) w) = rsh [(3, (.one .slc)), (9, (.one .ptr)), (11, (.one .slc)), (12, (.one (.int .i64))), (14, (.one .slc)), (15, (.one (.int .i64)))] t (fun t => vc Try.prog (orcOf [([1, 0, 0, 1, 0, 1, 1, 1, 1, 1, 1, 1], F5_4O)]) [0, 0, 1, 0, 1, 1, 1, 1, 1, 1, 1] (getAt F5_code [0, 0, 1, 0, 1, 1, 1, 1, 1, 1, 1]) (fun o t w => match o with | .normal => F5_7 K2 n (t 3) (t 9) (t 11) (t 12) (t 14) (t 15) w | .exit i => F5_7C K2 (.exit i) t w | .ret => F5_7C K2 .ret t w) t w) := by kernel_rfl
theorem F5_7_ok : ∀ Q t w, F5_7O Q t w → W Try.prog Try.f5.ntmps (getAt F5_code [0, 1, 0, 1, 1, 1, 1, 1, 1, 1]) Q t w := by
  intro Q t w ⟨n, h⟩
  refine (W_loop (P := Try.prog) (b := getAt F5_code [0, 0, 1, 0, 1, 1, 1, 1, 1, 1, 1]) (Q := F5_7C (fun y9 y11 y12 y14 w => ∀ g, rsh [(9, (.one .ptr)), (11, (.one .slc)), (12, (.one (.int .i64))), (14, (.one .slc))] (upds g [(9, y9), (11, y11), (12, y12), (14, y14)]) fun t => Q (.exit 2) t w)) (G := fun n t w => F5_7 (fun y9 y11 y12 y14 w => ∀ g, rsh [(9, (.one .ptr)), (11, (.one .slc)), (12, (.one (.int .i64))), (14, (.one .slc))] (upds g [(9, y9), (11, y11), (12, y12), (14, y14)]) fun t => Q (.exit 2) t w) n (t 3) (t 9) (t 11) (t 12) (t 14) (t 15) w) (fun _ _ h => h) (fun n t w h => ?_) n t w h).mono ?_
  · rw [F5_7_step] at h
    exact vc_sound mixed (orcCons (π := [1, 0, 0, 1, 0, 1, 1, 1, 1, 1, 1, 1]) F5_4_ok (orcNil F5_code)) _ _ rfl (okC_at F5_code_ok [0, 0, 1, 0, 1, 1, 1, 1, 1, 1, 1]) _ _ _ (rsh_out h)
  · intro o t w q
    cases o with
    | normal => exact q.elim
    | exit i =>
      unfold F5_7C at q
      simp only at q
      split at q
      · rename_i hi
        rw [nbeq] at hi
        subst hi
        exact out_ok [9, 11, 12, 14] q
      · exact q.elim
    | ret => exact q.elim
def F5_8C (Kn : Value → Value → Value → Value → Value → Value → Value → Value → World → Prop) : Post := fun o t w => match o with | .normal => Kn (t 0) (t 1) (t 2) (t 3) (t 9) (t 11) (t 12) (t 13) w | .exit _ => (False) | .ret => False
def F5_8 (Kn : Value → Value → Value → Value → Value → Value → Value → Value → World → Prop) (x0 : Value) (x1 : Value) (x2 : Value) (x3 : Value) (x9 : Value) (x11 : Value) (x12 : Value) (x13 : Value) (w : World) : Prop :=
  rdC x0 fun l1a l1n l1c => rdI .u32 x1 fun n2 => rdI .u8 x2 fun n3 => rdC x3 fun l4a l4n l4c => rdP x9 fun p5 => rdC x11 fun l6a l6n l6c => rdI .i64 x12 fun n7 => rdI .i64 x13 fun n8 => ixS 5 l1a l1n n8 fun a9 => ldC (a9.add 4) w fun _ l10n _ => br (decide (((l10n : Int) : Int) > 0)) (ixS 5 l1a l1n n8 fun a11 => ldC (a11.add 4) w fun _ l12n _ => F5_3 (fun y0_12 y1_12 y2_12 y3_12 y9_12 y11_12 y12_12 y13_12 w14 => ∀ _g15 : Tm, rdC y0_12 fun l16a l16n l16c => rdI .u32 y1_12 fun n17 => rdI .u8 y2_12 fun n18 => rdC y3_12 fun l19a l19n l19c => rdP y9_12 fun p20 => rdC y11_12 fun l21a l21n l21c => rdI .i64 y12_12 fun n22 => rdI .i64 y13_12 fun n23 => Kn (.slice l16a l16n l16c) (.int .u32 n17) (.int .u8 n18) (.slice l19a l19n l19c) (.pointer p20) (.slice l21a l21n l21c) (.int .i64 n22) (.int .i64 (IntKind.wrap .i64 (n23 + 1))) w14) (.slice l1a l1n l1c) (.int .u32 n2) (.int .u8 n3) (.slice l4a l4n l4c) (.pointer p5) (.slice l6a l6n l6c) (.int .i64 n7) (.int .i64 n8) (.bool (decide (((l12n : Int) : Int) ≤ 500))) w) (F5_3 (fun y0_23 y1_23 y2_23 y3_23 y9_23 y11_23 y12_23 y13_23 w25 => ∀ _g26 : Tm, rdC y0_23 fun l27a l27n l27c => rdI .u32 y1_23 fun n28 => rdI .u8 y2_23 fun n29 => rdC y3_23 fun l30a l30n l30c => rdP y9_23 fun p31 => rdC y11_23 fun l32a l32n l32c => rdI .i64 y12_23 fun n33 => rdI .i64 y13_23 fun n34 => Kn (.slice l27a l27n l27c) (.int .u32 n28) (.int .u8 n29) (.slice l30a l30n l30c) (.pointer p31) (.slice l32a l32n l32c) (.int .i64 n33) (.int .i64 (IntKind.wrap .i64 (n34 + 1))) w25) (.slice l1a l1n l1c) (.int .u32 n2) (.int .u8 n3) (.slice l4a l4n l4c) (.pointer p5) (.slice l6a l6n l6c) (.int .i64 n7) (.int .i64 n8) (.bool false) w)
def F5_8O (Q : Post) (t : Tm) (w : World) : Prop := F5_8 (fun y0 y1 y2 y3 y9 y11 y12 y13 w => ∀ g, rsh [(0, (.one .slc)), (1, (.one (.int .u32))), (2, (.one (.int .u8))), (3, (.one .slc)), (9, (.one .ptr)), (11, (.one .slc)), (12, (.one (.int .i64))), (13, (.one (.int .i64)))] (upds g [(0, y0), (1, y1), (2, y2), (3, y3), (9, y9), (11, y11), (12, y12), (13, y13)]) fun t => Q .normal t w) (t 0) (t 1) (t 2) (t 3) (t 9) (t 11) (t 12) (t 13) w
theorem F5_8_step (Kn : Value → Value → Value → Value → Value → Value → Value → Value → World → Prop) (t : Tm) (w : World) : (F5_8 Kn (t 0) (t 1) (t 2) (t 3) (t 9) (t 11) (t 12) (t 13) w) = rsh [(0, (.one .slc)), (1, (.one (.int .u32))), (2, (.one (.int .u8))), (3, (.one .slc)), (9, (.one .ptr)), (11, (.one .slc)), (12, (.one (.int .i64))), (13, (.one (.int .i64)))] t (fun t => vc Try.prog (orcOf [([1, 0, 0, 1, 0, 0, 1, 0, 1, 1, 1, 1, 1], F5_3O)]) [1, 0, 0, 1, 0, 1, 1, 1, 1, 1] (getAt F5_code [1, 0, 0, 1, 0, 1, 1, 1, 1, 1]) (F5_8C Kn) t w) := by kernel_rfl
theorem F5_8_ok : ∀ Q t w, F5_8O Q t w → W Try.prog Try.f5.ntmps (getAt F5_code [1, 0, 0, 1, 0, 1, 1, 1, 1, 1]) Q t w := by
  intro Q t w h
  unfold F5_8O at h
  rw [F5_8_step] at h
  refine (vc_sound mixed (orcCons (π := [1, 0, 0, 1, 0, 0, 1, 0, 1, 1, 1, 1, 1]) F5_3_ok (orcNil F5_code)) _ _ rfl (okC_at F5_code_ok [1, 0, 0, 1, 0, 1, 1, 1, 1, 1]) _ _ _ (rsh_out h)).mono ?_
  intro o t w q
  cases o with
  | normal => exact out_ok [0, 1, 2, 3, 9, 11, 12, 13] q
  | exit i => exact q.elim
  | ret => exact q.elim
def F5_9C (Kr : Value → World → Prop) : Post := fun o t w => match o with | .normal => False | .exit _ => (False) | .ret => Kr (t 8) w
def F5_9 (Kr : Value → World → Prop) (x9 : Value) (x11 : Value) (w : World) : Prop :=
  rdP x9 fun p1 => rdC x11 fun l2a l2n l2c => ∃ k7 : Nat, F5_6 (fun y8_2 w4 => ∀ _g5 : Tm, rdB y8_2 fun b6 => Kr (.bool b6) w4) k7 (.pointer p1) (.slice l2a l2n l2c) w
def F5_9O (Q : Post) (t : Tm) (w : World) : Prop := F5_9 (fun y8 w => ∀ g, rsh [(8, (.one .bool))] (upds g [(8, y8)]) fun t => Q .ret t w) (t 9) (t 11) w
theorem F5_9_step (Kr : Value → World → Prop) (t : Tm) (w : World) : (F5_9 Kr (t 9) (t 11) w) = rsh [(9, (.one .ptr)), (11, (.one .slc))] t (fun t => vc Try.prog (orcOf [([0, 1, 0, 1, 1, 1, 0, 0, 0, 1, 1, 1, 1, 1, 1, 1, 1, 1, 1], F5_1O), ([1, 1, 1, 1, 1, 0, 0, 0, 1, 1, 1, 1, 1, 1, 1, 1, 1, 1], F5_2O), ([0, 1, 1, 1, 1, 1, 1, 1, 1, 1, 1], F5_6O)]) [1, 1, 1, 1, 1, 1, 1, 1, 1, 1] (getAt F5_code [1, 1, 1, 1, 1, 1, 1, 1, 1, 1]) (F5_9C Kr) t w) := by kernel_rfl
theorem F5_9_ok : ∀ Q t w, F5_9O Q t w → W Try.prog Try.f5.ntmps (getAt F5_code [1, 1, 1, 1, 1, 1, 1, 1, 1, 1]) Q t w := by
  intro Q t w h
  unfold F5_9O at h
  rw [F5_9_step] at h
  refine (vc_sound mixed (orcCons (π := [0, 1, 0, 1, 1, 1, 0, 0, 0, 1, 1, 1, 1, 1, 1, 1, 1, 1, 1]) F5_1_ok (orcCons (π := [1, 1, 1, 1, 1, 0, 0, 0, 1, 1, 1, 1, 1, 1, 1, 1, 1, 1]) F5_2_ok (orcCons (π := [0, 1, 1, 1, 1, 1, 1, 1, 1, 1, 1]) F5_6_ok (orcNil F5_code)))) _ _ rfl (okC_at F5_code_ok [1, 1, 1, 1, 1, 1, 1, 1, 1, 1]) _ _ _ (rsh_out h)).mono ?_
  intro o t w q
  cases o with
  | normal => exact q.elim
  | exit i => exact q.elim
  | ret => exact out_ok [8] q
def F5_10C (K0 : Value → Value → Value → Value → Value → Value → World → Prop) : Post := fun o t w => match o with | .normal => False | .exit i => (match Nat.beq i 0 with | true => K0 (t 1) (t 2) (t 3) (t 9) (t 11) (t 12) w | false => False) | .ret => False
def F5_10B (R : Value → Value → Value → Value → Value → Value → Value → Value → World → Prop) (K0 : Value → Value → Value → Value → Value → Value → World → Prop) (x0 : Value) (x1 : Value) (x2 : Value) (x3 : Value) (x9 : Value) (x11 : Value) (x12 : Value) (x13 : Value) (w : World) : Prop :=
  rdC x0 fun l1a l1n l1c => rdI .u32 x1 fun n2 => rdI .u8 x2 fun n3 => rdC x3 fun l4a l4n l4c => rdP x9 fun p5 => rdC x11 fun l6a l6n l6c => rdI .i64 x12 fun n7 => rdI .i64 x13 fun n8 => br (decide ((n8 : Int) < (l1n : Int))) (br (decide ((n8 : Int) < 40)) (F5_8 (fun y0_8 y1_8 y2_8 y3_8 y9_8 y11_8 y12_8 y13_8 w10 => ∀ _g11 : Tm, rdC y0_8 fun l12a l12n l12c => rdI .u32 y1_8 fun n13 => rdI .u8 y2_8 fun n14 => rdC y3_8 fun l15a l15n l15c => rdP y9_8 fun p16 => rdC y11_8 fun l17a l17n l17c => rdI .i64 y12_8 fun n18 => rdI .i64 y13_8 fun n19 => R (.slice l12a l12n l12c) (.int .u32 n13) (.int .u8 n14) (.slice l15a l15n l15c) (.pointer p16) (.slice l17a l17n l17c) (.int .i64 n18) (.int .i64 n19) w10) (.slice l1a l1n l1c) (.int .u32 n2) (.int .u8 n3) (.slice l4a l4n l4c) (.pointer p5) (.slice l6a l6n l6c) (.int .i64 n7) (.int .i64 n8) w) (K0 (.int .u32 n2) (.int .u8 n3) (.slice l4a l4n l4c) (.pointer p5) (.slice l6a l6n l6c) (.int .i64 n7) w)) (K0 (.int .u32 n2) (.int .u8 n3) (.slice l4a l4n l4c) (.pointer p5) (.slice l6a l6n l6c) (.int .i64 n7) w)
def F5_10 (K0 : Value → Value → Value → Value → Value → Value → World → Prop) : Nat → Value → Value → Value → Value → Value → Value → Value → Value → World → Prop
  | 0 => fun _ _ _ _ _ _ _ _ _ => False
  | n + 1 => F5_10B (F5_10 K0 n) K0
def F5_10O (Q : Post) (t : Tm) (w : World) : Prop := ∃ n, F5_10 (fun y1 y2 y3 y9 y11 y12 w => ∀ g, rsh [(1, (.one (.int .u32))), (2, (.one (.int .u8))), (3, (.one .slc)), (9, (.one .ptr)), (11, (.one .slc)), (12, (.one (.int .i64)))] (upds g [(1, y1), (2, y2), (3, y3), (9, y9), (11, y11), (12, y12)]) fun t => Q (.exit 0) t w) n (t 0) (t 1) (t 2) (t 3) (t 9) (t 11) (t 12) (t 13) w
theorem F5_10_step (K0 : Value → Value → Value → Value → Value → Value → World → Prop) (n : Nat) (t : Tm) (w : World) : (F5_10 K0 (n + 1) (t 0) (t 1) (t 2) (t 3) (t 9) (t 11) (t 12) (t 13) w) = rsh [(0, (.one .slc)), (1, (.one (.int .u32))), (2, (.one (.int .u8))), (3, (.one .slc)), (9, (.one .ptr)), (11, (.one .slc)), (12, (.one (.int .i64))), (13, (.one (.int .i64)))] t (fun t => vc Try.prog (orcOf [([1, 0, 0, 1, 0, 0, 1, 0, 1, 1, 1, 1, 1], F5_3O), ([1, 0, 0, 1, 0, 1, 1, 1, 1, 1], F5_8O)]) [0, 0, 1, 0, 1, 1, 1, 1, 1] (getAt F5_code [0, 0, 1, 0, 1, 1, 1, 1, 1]) (fun o t w => match o with | .normal => F5_10 K0 n (t 0) (t 1) (t 2) (t 3) (t 9) (t 11) (t 12) (t 13) w | .exit i => F5_10C K0 (.exit i) t w | .ret => F5_10C K0 .ret t w) t w) := by kernel_rfl
theorem F5_10_ok : ∀ Q t w, F5_10O Q t w → W Try.prog Try.f5.ntmps (getAt F5_code [0, 1, 0, 1, 1, 1, 1, 1]) Q t w := by
  intro Q t w ⟨n, h⟩
  refine (W_loop (P := Try.prog) (b := getAt F5_code [0, 0, 1, 0, 1, 1, 1, 1, 1]) (Q := F5_10C (fun y1 y2 y3 y9 y11 y12 w => ∀ g, rsh [(1, (.one (.int .u32))), (2, (.one (.int .u8))), (3, (.one .slc)), (9, (.one .ptr)), (11, (.one .slc)), (12, (.one (.int .i64)))] (upds g [(1, y1), (2, y2), (3, y3), (9, y9), (11, y11), (12, y12)]) fun t => Q (.exit 0) t w)) (G := fun n t w => F5_10 (fun y1 y2 y3 y9 y11 y12 w => ∀ g, rsh [(1, (.one (.int .u32))), (2, (.one (.int .u8))), (3, (.one .slc)), (9, (.one .ptr)), (11, (.one .slc)), (12, (.one (.int .i64)))] (upds g [(1, y1), (2, y2), (3, y3), (9, y9), (11, y11), (12, y12)]) fun t => Q (.exit 0) t w) n (t 0) (t 1) (t 2) (t 3) (t 9) (t 11) (t 12) (t 13) w) (fun _ _ h => h) (fun n t w h => ?_) n t w h).mono ?_
  · rw [F5_10_step] at h
    exact vc_sound mixed (orcCons (π := [1, 0, 0, 1, 0, 0, 1, 0, 1, 1, 1, 1, 1]) F5_3_ok (orcCons (π := [1, 0, 0, 1, 0, 1, 1, 1, 1, 1]) F5_8_ok (orcNil F5_code))) _ _ rfl (okC_at F5_code_ok [0, 0, 1, 0, 1, 1, 1, 1, 1]) _ _ _ (rsh_out h)
  · intro o t w q
    cases o with
    | normal => exact q.elim
    | exit i =>
      unfold F5_10C at q
      simp only at q
      split at q
      · rename_i hi
        rw [nbeq] at hi
        subst hi
        exact out_ok [1, 2, 3, 9, 11, 12] q
      · exact q.elim
    | ret => exact q.elim
def F5_11C (Kr : Value → World → Prop) : Post := fun o t w => match o with | .normal => False | .exit _ => (False) | .ret => Kr (t 8) w
def F5_11 (Kr : Value → World → Prop) (x0 : Value) (x1 : Value) (x2 : Value) (x3 : Value) (x9 : Value) (w : World) : Prop :=
  rdC x0 fun l1a l1n l1c => rdI .u32 x1 fun n2 => rdI .u8 x2 fun n3 => rdC x3 fun l4a l4n l4c => rdP x9 fun p5 => ∃ k46 : Nat, F5_10 (fun y1_5 y2_5 y3_5 y9_5 y11_5 y12_5 w7 => ∀ _g8 : Tm, rdI .u32 y1_5 fun n9 => rdI .u8 y2_5 fun n10 => rdC y3_5 fun l11a l11n l11c => rdP y9_5 fun p12 => rdC y11_5 fun l13a l13n l13c => rdI .i64 y12_5 fun n14 => Calls Try.prog 17 #[(.slice l13a l13n l13c), (.int .u32 n9), (.int .i64 (IntKind.wrap .i64 (1 + (Int.tmod (IntKind.wrap .i64 (n10)) 7))))] w7 fun e16 w15 => ∃ l17a l17n l17c, e16 = .returned (.slice l17a l17n l17c) ∧ (∃ k45 : Nat, F5_7 (fun y9_17 y11_17 y12_17 y14_17 w19 => ∀ _g20 : Tm, rdP y9_17 fun p21 => rdC y11_17 fun l22a l22n l22c => rdI .i64 y12_17 fun n23 => rdC y14_17 fun l24a l24n l24c => ∃ k44 : Nat, F5_5 (fun y9_24 y11_24 y12_24 w26 => ∀ _g27 : Tm, rdP y9_24 fun p28 => rdC y11_24 fun l29a l29n l29c => rdI .i64 y12_24 fun n30 => Calls Try.prog 18 #[(.pointer p28)] w26 fun e32 w31 => ∃ n33, e32 = .returned (.int .i64 n33) ∧ (br (n33 != n30) (Kr (.bool false) w31) (Calls Try.prog 16 #[(.pointer p28)] w31 fun e35 w34 => ∃ n36, e35 = .returned (.int .i64 n36) ∧ (br (n36 != (l29n : Int)) (Kr (.bool false) w34) (Calls Try.prog 19 #[(.pointer p28)] w34 fun e38 w37 => ∃ l39a l39n l39c, e38 = .returned (.slice l39a l39n l39c) ∧ (br ((l39n : Int) != 0) (Kr (.bool false) w37) (F5_9 (fun y8_39 w41 => ∀ _g42 : Tm, rdB y8_39 fun b43 => Kr (.bool b43) w41) (.pointer p28) (.slice l29a l29n l29c) w37))))))) k44 (.pointer p21) (.slice l22a l22n l22c) (.int .i64 n23) (.slice l24a l24n l24c) (.int .i64 0) w19) k45 (.slice l11a l11n l11c) (.pointer p12) (.slice l13a l13n l13c) (.int .i64 n14) (.slice l17a l17n l17c) (.int .i64 0) w15)) k46 (.slice l1a l1n l1c) (.int .u32 n2) (.int .u8 n3) (.slice l4a l4n l4c) (.pointer p5) (.slice none 0 0) (.int .i64 0) (.int .i64 0) w
def F5_11O (Q : Post) (t : Tm) (w : World) : Prop := F5_11 (fun y8 w => ∀ g, rsh [(8, (.one .bool))] (upds g [(8, y8)]) fun t => Q .ret t w) (t 0) (t 1) (t 2) (t 3) (t 9) w
theorem F5_11_step (Kr : Value → World → Prop) (t : Tm) (w : World) : (F5_11 Kr (t 0) (t 1) (t 2) (t 3) (t 9) w) = rsh [(0, (.one .slc)), (1, (.one (.int .u32))), (2, (.one (.int .u8))), (3, (.one .slc)), (9, (.one .ptr))] t (fun t => vc Try.prog (orcOf [([0, 1, 0, 1, 1, 1, 0, 0, 0, 1, 1, 1, 1, 1, 1, 1, 1, 1, 1], F5_1O), ([1, 1, 1, 1, 1, 0, 0, 0, 1, 1, 1, 1, 1, 1, 1, 1, 1, 1], F5_2O), ([1, 0, 0, 1, 0, 0, 1, 0, 1, 1, 1, 1, 1], F5_3O), ([1, 0, 0, 1, 0, 1, 1, 1, 1, 1, 1, 1], F5_4O), ([0, 1, 0, 1, 1, 1, 1, 1, 1, 1, 1], F5_5O), ([0, 1, 1, 1, 1, 1, 1, 1, 1, 1, 1], F5_6O), ([0, 1, 0, 1, 1, 1, 1, 1, 1, 1], F5_7O), ([1, 0, 0, 1, 0, 1, 1, 1, 1, 1], F5_8O), ([1, 1, 1, 1, 1, 1, 1, 1, 1, 1], F5_9O), ([0, 1, 0, 1, 1, 1, 1, 1], F5_10O)]) [1, 1, 1] (getAt F5_code [1, 1, 1]) (F5_11C Kr) t w) := by kernel_rfl
theorem F5_11_ok : ∀ Q t w, F5_11O Q t w → W Try.prog Try.f5.ntmps (getAt F5_code [1, 1, 1]) Q t w := by
  intro Q t w h
  unfold F5_11O at h
  rw [F5_11_step] at h
  refine (vc_sound mixed (orcCons (π := [0, 1, 0, 1, 1, 1, 0, 0, 0, 1, 1, 1, 1, 1, 1, 1, 1, 1, 1]) F5_1_ok (orcCons (π := [1, 1, 1, 1, 1, 0, 0, 0, 1, 1, 1, 1, 1, 1, 1, 1, 1, 1]) F5_2_ok (orcCons (π := [1, 0, 0, 1, 0, 0, 1, 0, 1, 1, 1, 1, 1]) F5_3_ok (orcCons (π := [1, 0, 0, 1, 0, 1, 1, 1, 1, 1, 1, 1]) F5_4_ok (orcCons (π := [0, 1, 0, 1, 1, 1, 1, 1, 1, 1, 1]) F5_5_ok (orcCons (π := [0, 1, 1, 1, 1, 1, 1, 1, 1, 1, 1]) F5_6_ok (orcCons (π := [0, 1, 0, 1, 1, 1, 1, 1, 1, 1]) F5_7_ok (orcCons (π := [1, 0, 0, 1, 0, 1, 1, 1, 1, 1]) F5_8_ok (orcCons (π := [1, 1, 1, 1, 1, 1, 1, 1, 1, 1]) F5_9_ok (orcCons (π := [0, 1, 0, 1, 1, 1, 1, 1]) F5_10_ok (orcNil F5_code))))))))))) _ _ rfl (okC_at F5_code_ok [1, 1, 1]) _ _ _ (rsh_out h)).mono ?_
  intro o t w q
  cases o with
  | normal => exact q.elim
  | exit i => exact q.elim
  | ret => exact out_ok [8] q
def F5 (x0 : Value) (x1 : Value) (x2 : Value) (x3 : Value) (w : World) (K : Value → World → Prop) : Prop :=
  rdC x0 fun l1a l1n l1c => rdI .u32 x1 fun n2 => rdI .u8 x2 fun n3 => rdC x3 fun l4a l4n l4c => Calls Try.prog 9 #[(.int .i64 4), (.int .i64 1073741824)] w fun e6 w5 => ∃ p7, ∃ n8, e6 = .returned (.tuple #[(.pointer p7), (.int .i64 n8)]) ∧ (br (n8 != 0) (K (.bool false) w5) (br (Option.isNone p7) (K (.bool false) w5) (Calls Try.prog 10 #[] w5 fun e10 w9 => ∃ b11, e10 = .returned (.bool b11) ∧ (br (!b11) (K (.bool false) w9) (F5_11 (fun y8_11 w13 => ∀ _g14 : Tm, rdB y8_11 fun b15 => K (.bool b15) w13) (.slice l1a l1n l1c) (.int .u32 n2) (.int .u8 n3) (.slice l4a l4n l4c) (.pointer p7) w9)))))
theorem F5_step (x0 : Value) (x1 : Value) (x2 : Value) (x3 : Value) (w : World) (K : Value → World → Prop) : (F5 x0 x1 x2 x3 w K) = rsh [(0, (.one .slc)), (1, (.one (.int .u32))), (2, (.one (.int .u8))), (3, (.one .slc))] (args0 #[x0, x1, x2, x3]) (fun t => vc Try.prog (orcOf [([0, 1, 0, 1, 1, 1, 0, 0, 0, 1, 1, 1, 1, 1, 1, 1, 1, 1, 1], F5_1O), ([1, 1, 1, 1, 1, 0, 0, 0, 1, 1, 1, 1, 1, 1, 1, 1, 1, 1], F5_2O), ([1, 0, 0, 1, 0, 0, 1, 0, 1, 1, 1, 1, 1], F5_3O), ([1, 0, 0, 1, 0, 1, 1, 1, 1, 1, 1, 1], F5_4O), ([0, 1, 0, 1, 1, 1, 1, 1, 1, 1, 1], F5_5O), ([0, 1, 1, 1, 1, 1, 1, 1, 1, 1, 1], F5_6O), ([0, 1, 0, 1, 1, 1, 1, 1, 1, 1], F5_7O), ([1, 0, 0, 1, 0, 1, 1, 1, 1, 1], F5_8O), ([1, 1, 1, 1, 1, 1, 1, 1, 1, 1], F5_9O), ([0, 1, 0, 1, 1, 1, 1, 1], F5_10O), ([1, 1, 1], F5_11O)]) [] F5_code (retQ Try.prog Try.f5 K) t w) := by kernel_rfl
theorem F5_ok {x0 x1 x2 x3 : Value} {w : World} {K : Value → World → Prop} (h : F5 x0 x1 x2 x3 w K) : Calls Try.prog 5 #[x0, x1, x2, x3] w fun e w' => ∃ v, e = .returned v ∧ K v w' := by
  rw [F5_step] at h
  exact calls_of (c := F5_code) mixed Try.func5 rfl (nlt rfl) (vc_sound mixed (orcCons (π := [0, 1, 0, 1, 1, 1, 0, 0, 0, 1, 1, 1, 1, 1, 1, 1, 1, 1, 1]) F5_1_ok (orcCons (π := [1, 1, 1, 1, 1, 0, 0, 0, 1, 1, 1, 1, 1, 1, 1, 1, 1, 1]) F5_2_ok (orcCons (π := [1, 0, 0, 1, 0, 0, 1, 0, 1, 1, 1, 1, 1]) F5_3_ok (orcCons (π := [1, 0, 0, 1, 0, 1, 1, 1, 1, 1, 1, 1]) F5_4_ok (orcCons (π := [0, 1, 0, 1, 1, 1, 1, 1, 1, 1, 1]) F5_5_ok (orcCons (π := [0, 1, 1, 1, 1, 1, 1, 1, 1, 1, 1]) F5_6_ok (orcCons (π := [0, 1, 0, 1, 1, 1, 1, 1, 1, 1]) F5_7_ok (orcCons (π := [1, 0, 0, 1, 0, 1, 1, 1, 1, 1]) F5_8_ok (orcCons (π := [1, 1, 1, 1, 1, 1, 1, 1, 1, 1]) F5_9_ok (orcCons (π := [0, 1, 0, 1, 1, 1, 1, 1]) F5_10_ok (orcCons (π := [1, 1, 1]) F5_11_ok (orcNil F5_code)))))))))))) F5_code [] rfl F5_code_ok _ _ _ (rsh_out h))

/-! ropewalk/ropewalklaw20.ReasmRuns -/
noncomputable def F6_code : Code := Try.f6.body.getD .skip
theorem F6_code_ok : okC Try.prog Try.f6.ntmps F6_code = true := by kernel_rfl
def F6_1C (K0 : World → Prop) (Kr : Value → World → Prop) : Post := fun o t w => match o with | .normal => False | .exit i => (match Nat.beq i 0 with | true => K0  w | false => False) | .ret => Kr (t 6) w
def F6_1B (R : Value → Value → Value → Value → World → Prop) (K0 : World → Prop) (Kr : Value → World → Prop) (x2 : Value) (x7 : Value) (x9 : Value) (x11 : Value) (w : World) : Prop :=
  rdC x2 fun l1a l1n l1c => rdP x7 fun p2 => rdP x9 fun p3 => rdI .i64 x11 fun n4 => br (decide ((n4 : Int) < (l1n : Int))) (ixS 17 l1a l1n n4 fun a5 => ldR58 a5 w fun s6 => Calls Try.prog 21 #[(.pointer p2), (.pointer p3), s6.v] w fun e8 w7 => ∃ b9, e8 = .returned (.bool b9) ∧ (br (!b9) (Kr (.bool false) w7) (R (.slice l1a l1n l1c) (.pointer p2) (.pointer p3) (.int .i64 (IntKind.wrap .i64 (n4 + 1))) w7))) (K0 w)
def F6_1 (K0 : World → Prop) (Kr : Value → World → Prop) : Nat → Value → Value → Value → Value → World → Prop
  | 0 => fun _ _ _ _ _ => False
  | n + 1 => F6_1B (F6_1 K0 Kr n) K0 Kr
def F6_1O (Q : Post) (t : Tm) (w : World) : Prop := ∃ n, F6_1 (fun w => ∀ g, rsh [] (upds g []) fun t => Q (.exit 0) t w) (fun y6 w => ∀ g, rsh [(6, (.one .bool))] (upds g [(6, y6)]) fun t => Q .ret t w) n (t 2) (t 7) (t 9) (t 11) w
theorem F6_1_step (K0 : World → Prop) (Kr : Value → World → Prop) (n : Nat) (t : Tm) (w : World) : (F6_1 K0 Kr (n + 1) (t 2) (t 7) (t 9) (t 11) w) = rsh [(2, (.one .slc)), (7, (.one .ptr)), (9, (.one .ptr)), (11, (.one (.int .i64)))] t (fun t => vc Try.prog (orcOf []) [0, 0, 1, 0, 1, 1, 1, 1, 1] (getAt F6_code [0, 0, 1, 0, 1, 1, 1, 1, 1]) (fun o t w => match o with | .normal => F6_1 K0 Kr n (t 2) (t 7) (t 9) (t 11) w | .exit i => F6_1C K0 Kr (.exit i) t w | .ret => F6_1C K0 Kr .ret t w) t w) := by kernel_rfl
theorem F6_1_ok : ∀ Q t w, F6_1O Q t w → W Try.prog Try.f6.ntmps (getAt F6_code [0, 1, 0, 1, 1, 1, 1, 1]) Q t w := by
  intro Q t w ⟨n, h⟩
  refine (W_loop (P := Try.prog) (b := getAt F6_code [0, 0, 1, 0, 1, 1, 1, 1, 1]) (Q := F6_1C (fun w => ∀ g, rsh [] (upds g []) fun t => Q (.exit 0) t w) (fun y6 w => ∀ g, rsh [(6, (.one .bool))] (upds g [(6, y6)]) fun t => Q .ret t w)) (G := fun n t w => F6_1 (fun w => ∀ g, rsh [] (upds g []) fun t => Q (.exit 0) t w) (fun y6 w => ∀ g, rsh [(6, (.one .bool))] (upds g [(6, y6)]) fun t => Q .ret t w) n (t 2) (t 7) (t 9) (t 11) w) (fun _ _ h => h) (fun n t w h => ?_) n t w h).mono ?_
  · rw [F6_1_step] at h
    exact vc_sound mixed (orcNil F6_code) _ _ rfl (okC_at F6_code_ok [0, 0, 1, 0, 1, 1, 1, 1, 1]) _ _ _ (rsh_out h)
  · intro o t w q
    cases o with
    | normal => exact q.elim
    | exit i =>
      unfold F6_1C at q
      simp only at q
      split at q
      · rename_i hi
        rw [nbeq] at hi
        subst hi
        exact out_ok [] q
      · exact q.elim
    | ret => exact out_ok [6] q
def F6_2C (Kr : Value → World → Prop) : Post := fun o t w => match o with | .normal => False | .exit _ => (False) | .ret => Kr (t 6) w
def F6_2 (Kr : Value → World → Prop) (x2 : Value) (x7 : Value) (x9 : Value) (w : World) : Prop :=
  rdC x2 fun l1a l1n l1c => rdP x7 fun p2 => rdP x9 fun p3 => br (Option.isNone p3) (Kr (.bool true) w) (∃ k11 : Nat, F6_1 (fun w5 => ∀ _g6 : Tm, Kr (.bool true) w5) (fun y6_6 w8 => ∀ _g9 : Tm, rdB y6_6 fun b10 => Kr (.bool b10) w8) k11 (.slice l1a l1n l1c) (.pointer p2) (.pointer p3) (.int .i64 0) w)
def F6_2O (Q : Post) (t : Tm) (w : World) : Prop := F6_2 (fun y6 w => ∀ g, rsh [(6, (.one .bool))] (upds g [(6, y6)]) fun t => Q .ret t w) (t 2) (t 7) (t 9) w
theorem F6_2_step (Kr : Value → World → Prop) (t : Tm) (w : World) : (F6_2 Kr (t 2) (t 7) (t 9) w) = rsh [(2, (.one .slc)), (7, (.one .ptr)), (9, (.one .ptr))] t (fun t => vc Try.prog (orcOf [([0, 1, 0, 1, 1, 1, 1, 1], F6_1O)]) [1, 1, 1, 1] (getAt F6_code [1, 1, 1, 1]) (F6_2C Kr) t w) := by kernel_rfl
theorem F6_2_ok : ∀ Q t w, F6_2O Q t w → W Try.prog Try.f6.ntmps (getAt F6_code [1, 1, 1, 1]) Q t w := by
  intro Q t w h
  unfold F6_2O at h
  rw [F6_2_step] at h
  refine (vc_sound mixed (orcCons (π := [0, 1, 0, 1, 1, 1, 1, 1]) F6_1_ok (orcNil F6_code)) _ _ rfl (okC_at F6_code_ok [1, 1, 1, 1]) _ _ _ (rsh_out h)).mono ?_
  intro o t w q
  cases o with
  | normal => exact q.elim
  | exit i => exact q.elim
  | ret => exact out_ok [6] q
def F6 (x0 : Value) (x1 : Value) (x2 : Value) (w : World) (K : Value → World → Prop) : Prop :=
  rdI .i64 x0 fun n1 => rdI .i64 x1 fun n2 => rdC x2 fun l3a l3n l3c => Calls Try.prog 9 #[(.int .i64 n1), (.int .i64 n2)] w fun e5 w4 => ∃ p6, ∃ n7, e5 = .returned (.tuple #[(.pointer p6), (.int .i64 n7)]) ∧ (Calls Try.prog 20 #[(.int .i64 n1), (.int .i64 n2)] w4 fun e9 w8 => ∃ p10, ∃ n11, e9 = .returned (.tuple #[(.pointer p10), (.int .i64 n11)]) ∧ (br (n7 != n11) (K (.bool false) w8) (br (!((Option.isNone p6) == (Option.isNone p10))) (K (.bool false) w8) (Calls Try.prog 10 #[] w8 fun e13 w12 => ∃ b14, e13 = .returned (.bool b14) ∧ (br (!b14) (K (.bool false) w12) (F6_2 (fun y6_14 w16 => ∀ _g17 : Tm, rdB y6_14 fun b18 => K (.bool b18) w16) (.slice l3a l3n l3c) (.pointer p6) (.pointer p10) w12))))))
theorem F6_step (x0 : Value) (x1 : Value) (x2 : Value) (w : World) (K : Value → World → Prop) : (F6 x0 x1 x2 w K) = rsh [(0, (.one (.int .i64))), (1, (.one (.int .i64))), (2, (.one .slc))] (args0 #[x0, x1, x2]) (fun t => vc Try.prog (orcOf [([0, 1, 0, 1, 1, 1, 1, 1], F6_1O), ([1, 1, 1, 1], F6_2O)]) [] F6_code (retQ Try.prog Try.f6 K) t w) := by kernel_rfl
theorem F6_ok {x0 x1 x2 : Value} {w : World} {K : Value → World → Prop} (h : F6 x0 x1 x2 w K) : Calls Try.prog 6 #[x0, x1, x2] w fun e w' => ∃ v, e = .returned v ∧ K v w' := by
  rw [F6_step] at h
  exact calls_of (c := F6_code) mixed Try.func6 rfl (nlt rfl) (vc_sound mixed (orcCons (π := [0, 1, 0, 1, 1, 1, 1, 1]) F6_1_ok (orcCons (π := [1, 1, 1, 1]) F6_2_ok (orcNil F6_code))) F6_code [] rfl F6_code_ok _ _ _ (rsh_out h))

/-! ropewalk/ropewalklaw20.ReasmBounds -/
noncomputable def F7_code : Code := Try.f7.body.getD .skip
theorem F7_code_ok : okC Try.prog Try.f7.ntmps F7_code = true := by kernel_rfl
def F7_1C (Kn : Value → Value → Value → Value → World → Prop) (Kr : Value → World → Prop) : Post := fun o t w => match o with | .normal => Kn (t 1) (t 2) (t 7) (t 9) w | .exit _ => (False) | .ret => Kr (t 6) w
def F7_1 (Kn : Value → Value → Value → Value → World → Prop) (Kr : Value → World → Prop) (x1 : Value) (x2 : Value) (x7 : Value) (x9 : Value) (w : World) : Prop :=
  rdI .i64 x1 fun n1 => rdC x2 fun l2a l2n l2c => rdP x7 fun p3 => rdI .i64 x9 fun n4 => Calls Try.prog 18 #[(.pointer p3)] w fun e6 w5 => ∃ n7, e6 = .returned (.int .i64 n7) ∧ (br (decide ((n7 : Int) < 0)) (Kr (.bool false) w5) (Calls Try.prog 18 #[(.pointer p3)] w5 fun e9 w8 => ∃ n10, e9 = .returned (.int .i64 n10) ∧ (br (decide ((n10 : Int) > n1)) (Kr (.bool false) w8) (Kn (.int .i64 n1) (.slice l2a l2n l2c) (.pointer p3) (.int .i64 n4) w8))))
def F7_1O (Q : Post) (t : Tm) (w : World) : Prop := F7_1 (fun y1 y2 y7 y9 w => ∀ g, rsh [(1, (.one (.int .i64))), (2, (.one .slc)), (7, (.one .ptr)), (9, (.one (.int .i64)))] (upds g [(1, y1), (2, y2), (7, y7), (9, y9)]) fun t => Q .normal t w) (fun y6 w => ∀ g, rsh [(6, (.one .bool))] (upds g [(6, y6)]) fun t => Q .ret t w) (t 1) (t 2) (t 7) (t 9) w
theorem F7_1_step (Kn : Value → Value → Value → Value → World → Prop) (Kr : Value → World → Prop) (t : Tm) (w : World) : (F7_1 Kn Kr (t 1) (t 2) (t 7) (t 9) w) = rsh [(1, (.one (.int .i64))), (2, (.one .slc)), (7, (.one .ptr)), (9, (.one (.int .i64)))] t (fun t => vc Try.prog (orcOf []) [1, 1, 0, 0, 1, 0, 0, 1, 0, 1, 1, 1, 1] (getAt F7_code [1, 1, 0, 0, 1, 0, 0, 1, 0, 1, 1, 1, 1]) (F7_1C Kn Kr) t w) := by kernel_rfl
theorem F7_1_ok : ∀ Q t w, F7_1O Q t w → W Try.prog Try.f7.ntmps (getAt F7_code [1, 1, 0, 0, 1, 0, 0, 1, 0, 1, 1, 1, 1]) Q t w := by
  intro Q t w h
  unfold F7_1O at h
  rw [F7_1_step] at h
  refine (vc_sound mixed (orcNil F7_code) _ _ rfl (okC_at F7_code_ok [1, 1, 0, 0, 1, 0, 0, 1, 0, 1, 1, 1, 1]) _ _ _ (rsh_out h)).mono ?_
  intro o t w q
  cases o with
  | normal => exact out_ok [1, 2, 7, 9] q
  | exit i => exact q.elim
  | ret => exact out_ok [6] q
def F7_2C (K0 : World → Prop) (Kr : Value → World → Prop) : Post := fun o t w => match o with | .normal => False | .exit i => (match Nat.beq i 0 with | true => K0  w | false => False) | .ret => Kr (t 6) w
def F7_2B (R : Value → Value → Value → Value → World → Prop) (K0 : World → Prop) (Kr : Value → World → Prop) (x1 : Value) (x2 : Value) (x7 : Value) (x9 : Value) (w : World) : Prop :=
  rdI .i64 x1 fun n1 => rdC x2 fun l2a l2n l2c => rdP x7 fun p3 => rdI .i64 x9 fun n4 => br (decide ((n4 : Int) < (l2n : Int))) (Calls Try.prog 18 #[(.pointer p3)] w fun e6 w5 => ∃ n7, e6 = .returned (.int .i64 n7) ∧ (Calls Try.prog 16 #[(.pointer p3)] w5 fun e9 w8 => ∃ n10, e9 = .returned (.int .i64 n10) ∧ (Calls Try.prog 19 #[(.pointer p3)] w8 fun e12 w11 => ∃ l13a l13n l13c, e12 = .returned (.slice l13a l13n l13c) ∧ (ixS 17 l2a l2n n4 fun a14 => ldI .i64 (a14.add 0) w11 fun n15 => br (n15 == 1) (ixS 17 l2a l2n n4 fun a16 => ldR35 (a16.add 1) w11 fun s17 => Calls Try.prog 11 #[(.pointer p3), s17.v] w11 fun e19 w18 => ∃ n20, e19 = .returned (.int .i64 n20) ∧ (br (n20 != 0) (Calls Try.prog 18 #[(.pointer p3)] w18 fun e22 w21 => ∃ n23, e22 = .returned (.int .i64 n23) ∧ (br (n23 != n7) (Kr (.bool false) w21) (Calls Try.prog 16 #[(.pointer p3)] w21 fun e25 w24 => ∃ n26, e25 = .returned (.int .i64 n26) ∧ (br (n26 != n10) (Kr (.bool false) w24) (Calls Try.prog 19 #[(.pointer p3)] w24 fun e28 w27 => ∃ l29a l29n l29c, e28 = .returned (.slice l29a l29n l29c) ∧ (Calls Try.prog 15 #[(.slice l29a l29n l29c), (.slice l13a l13n l13c)] w27 fun e31 w30 => ∃ b32, e31 = .returned (.bool b32) ∧ (br (!b32) (Kr (.bool false) w30) (F7_1 (fun y1_32 y2_32 y7_32 y9_32 w34 => ∀ _g35 : Tm, rdI .i64 y1_32 fun n36 => rdC y2_32 fun l37a l37n l37c => rdP y7_32 fun p38 => rdI .i64 y9_32 fun n39 => R (.int .i64 n36) (.slice l37a l37n l37c) (.pointer p38) (.int .i64 (IntKind.wrap .i64 (n39 + 1))) w34) (fun y6_39 w41 => ∀ _g42 : Tm, rdB y6_39 fun b43 => Kr (.bool b43) w41) (.int .i64 n1) (.slice l2a l2n l2c) (.pointer p3) (.int .i64 n4) w30)))))))) (drw w18 fun w44 => ∃ w45 : World, Pres w45 w44 ∧ (ixS 17 l2a l2n n4 fun a46 => ldC ((a46.add 1).add 13) w45 fun _ l47n _ => Calls Try.prog 18 #[(.pointer p3)] w44 fun e49 w48 => ∃ n50, e49 = .returned (.int .i64 n50) ∧ (Pres w45 w48 ∧ (br ((IntKind.wrap .i64 (n50 - n7)) != (l47n : Int)) (Kr (.bool false) w48) (F7_1 (fun y1_50 y2_50 y7_50 y9_50 w52 => ∀ _g53 : Tm, rdI .i64 y1_50 fun n54 => rdC y2_50 fun l55a l55n l55c => rdP y7_50 fun p56 => rdI .i64 y9_50 fun n57 => R (.int .i64 n54) (.slice l55a l55n l55c) (.pointer p56) (.int .i64 (IntKind.wrap .i64 (n57 + 1))) w52) (fun y6_57 w59 => ∀ _g60 : Tm, rdB y6_57 fun b61 => Kr (.bool b61) w59) (.int .i64 n1) (.slice l2a l2n l2c) (.pointer p3) (.int .i64 n4) w48))))))) (br (n15 == 2) (Calls Try.prog 13 #[(.pointer p3)] w11 fun e63 w62 => exR38 fun s64 => ∃ b65, e63 = .returned (.tuple #[s64.v, (.bool b65)]) ∧ (F7_1 (fun y1_65 y2_65 y7_65 y9_65 w67 => ∀ _g68 : Tm, rdI .i64 y1_65 fun n69 => rdC y2_65 fun l70a l70n l70c => rdP y7_65 fun p71 => rdI .i64 y9_65 fun n72 => R (.int .i64 n69) (.slice l70a l70n l70c) (.pointer p71) (.int .i64 (IntKind.wrap .i64 (n72 + 1))) w67) (fun y6_72 w74 => ∀ _g75 : Tm, rdB y6_72 fun b76 => Kr (.bool b76) w74) (.int .i64 n1) (.slice l2a l2n l2c) (.pointer p3) (.int .i64 n4) w62)) (br (n15 == 3) (ixS 17 l2a l2n n4 fun a77 => ldI .u32 (a77.add 16) w11 fun n78 => Calls Try.prog 22 #[(.pointer p3), (.int .u32 n78)] w11 fun e80 w79 => ∃ b81, ∃ n82, e80 = .returned (.tuple #[(.bool b81), (.int .i64 n82)]) ∧ (F7_1 (fun y1_82 y2_82 y7_82 y9_82 w84 => ∀ _g85 : Tm, rdI .i64 y1_82 fun n86 => rdC y2_82 fun l87a l87n l87c => rdP y7_82 fun p88 => rdI .i64 y9_82 fun n89 => R (.int .i64 n86) (.slice l87a l87n l87c) (.pointer p88) (.int .i64 (IntKind.wrap .i64 (n89 + 1))) w84) (fun y6_89 w91 => ∀ _g92 : Tm, rdB y6_89 fun b93 => Kr (.bool b93) w91) (.int .i64 n1) (.slice l2a l2n l2c) (.pointer p3) (.int .i64 n4) w79)) (br (n15 == 4) (ixS 17 l2a l2n n4 fun a94 => ldI .u32 (a94.add 16) w11 fun n95 => Calls Try.prog 23 #[(.pointer p3), (.int .u32 n95)] w11 fun e97 w96 => ∃ n98, e97 = .returned (.int .i64 n98) ∧ (F7_1 (fun y1_98 y2_98 y7_98 y9_98 w100 => ∀ _g101 : Tm, rdI .i64 y1_98 fun n102 => rdC y2_98 fun l103a l103n l103c => rdP y7_98 fun p104 => rdI .i64 y9_98 fun n105 => R (.int .i64 n102) (.slice l103a l103n l103c) (.pointer p104) (.int .i64 (IntKind.wrap .i64 (n105 + 1))) w100) (fun y6_105 w107 => ∀ _g108 : Tm, rdB y6_105 fun b109 => Kr (.bool b109) w107) (.int .i64 n1) (.slice l2a l2n l2c) (.pointer p3) (.int .i64 n4) w96)) (F7_1 (fun y1_109 y2_109 y7_109 y9_109 w111 => ∀ _g112 : Tm, rdI .i64 y1_109 fun n113 => rdC y2_109 fun l114a l114n l114c => rdP y7_109 fun p115 => rdI .i64 y9_109 fun n116 => R (.int .i64 n113) (.slice l114a l114n l114c) (.pointer p115) (.int .i64 (IntKind.wrap .i64 (n116 + 1))) w111) (fun y6_116 w118 => ∀ _g119 : Tm, rdB y6_116 fun b120 => Kr (.bool b120) w118) (.int .i64 n1) (.slice l2a l2n l2c) (.pointer p3) (.int .i64 n4) w11)))))))) (K0 w)
def F7_2 (K0 : World → Prop) (Kr : Value → World → Prop) : Nat → Value → Value → Value → Value → World → Prop
  | 0 => fun _ _ _ _ _ => False
  | n + 1 => F7_2B (F7_2 K0 Kr n) K0 Kr
def F7_2O (Q : Post) (t : Tm) (w : World) : Prop := ∃ n, F7_2 (fun w => ∀ g, rsh [] (upds g []) fun t => Q (.exit 0) t w) (fun y6 w => ∀ g, rsh [(6, (.one .bool))] (upds g [(6, y6)]) fun t => Q .ret t w) n (t 1) (t 2) (t 7) (t 9) w
theorem F7_2_step (K0 : World → Prop) (Kr : Value → World → Prop) (n : Nat) (t : Tm) (w : World) : (F7_2 K0 Kr (n + 1) (t 1) (t 2) (t 7) (t 9) w) = rsh [(1, (.one (.int .i64))), (2, (.one .slc)), (7, (.one .ptr)), (9, (.one (.int .i64)))] t (fun t => vc Try.prog (orcOf [([1, 1, 0, 0, 1, 0, 0, 1, 0, 1, 1, 1, 1], F7_1O)]) [0, 0, 1, 0, 1, 1, 1, 1] (getAt F7_code [0, 0, 1, 0, 1, 1, 1, 1]) (fun o t w => match o with | .normal => F7_2 K0 Kr n (t 1) (t 2) (t 7) (t 9) w | .exit i => F7_2C K0 Kr (.exit i) t w | .ret => F7_2C K0 Kr .ret t w) t w) := by kernel_rfl
theorem F7_2_ok : ∀ Q t w, F7_2O Q t w → W Try.prog Try.f7.ntmps (getAt F7_code [0, 1, 0, 1, 1, 1, 1]) Q t w := by
  intro Q t w ⟨n, h⟩
  refine (W_loop (P := Try.prog) (b := getAt F7_code [0, 0, 1, 0, 1, 1, 1, 1]) (Q := F7_2C (fun w => ∀ g, rsh [] (upds g []) fun t => Q (.exit 0) t w) (fun y6 w => ∀ g, rsh [(6, (.one .bool))] (upds g [(6, y6)]) fun t => Q .ret t w)) (G := fun n t w => F7_2 (fun w => ∀ g, rsh [] (upds g []) fun t => Q (.exit 0) t w) (fun y6 w => ∀ g, rsh [(6, (.one .bool))] (upds g [(6, y6)]) fun t => Q .ret t w) n (t 1) (t 2) (t 7) (t 9) w) (fun _ _ h => h) (fun n t w h => ?_) n t w h).mono ?_
  · rw [F7_2_step] at h
    exact vc_sound mixed (orcCons (π := [1, 1, 0, 0, 1, 0, 0, 1, 0, 1, 1, 1, 1]) F7_1_ok (orcNil F7_code)) _ _ rfl (okC_at F7_code_ok [0, 0, 1, 0, 1, 1, 1, 1]) _ _ _ (rsh_out h)
  · intro o t w q
    cases o with
    | normal => exact q.elim
    | exit i =>
      unfold F7_2C at q
      simp only at q
      split at q
      · rename_i hi
        rw [nbeq] at hi
        subst hi
        exact out_ok [] q
      · exact q.elim
    | ret => exact out_ok [6] q
def F7 (x0 : Value) (x1 : Value) (x2 : Value) (w : World) (K : Value → World → Prop) : Prop :=
  rdI .i64 x0 fun n1 => rdI .i64 x1 fun n2 => rdC x2 fun l3a l3n l3c => Calls Try.prog 9 #[(.int .i64 n1), (.int .i64 n2)] w fun e5 w4 => ∃ p6, ∃ n7, e5 = .returned (.tuple #[(.pointer p6), (.int .i64 n7)]) ∧ (Calls Try.prog 10 #[] w4 fun e9 w8 => ∃ b10, e9 = .returned (.bool b10) ∧ (br (!b10) (K (.bool false) w8) (br (n7 != 0) (K (.bool (Option.isNone p6)) w8) (∃ k18 : Nat, F7_2 (fun w12 => ∀ _g13 : Tm, K (.bool true) w12) (fun y6_13 w15 => ∀ _g16 : Tm, rdB y6_13 fun b17 => K (.bool b17) w15) k18 (.int .i64 n2) (.slice l3a l3n l3c) (.pointer p6) (.int .i64 0) w8))))
theorem F7_step (x0 : Value) (x1 : Value) (x2 : Value) (w : World) (K : Value → World → Prop) : (F7 x0 x1 x2 w K) = rsh [(0, (.one (.int .i64))), (1, (.one (.int .i64))), (2, (.one .slc))] (args0 #[x0, x1, x2]) (fun t => vc Try.prog (orcOf [([1, 1, 0, 0, 1, 0, 0, 1, 0, 1, 1, 1, 1], F7_1O), ([0, 1, 0, 1, 1, 1, 1], F7_2O)]) [] F7_code (retQ Try.prog Try.f7 K) t w) := by kernel_rfl
theorem F7_ok {x0 x1 x2 : Value} {w : World} {K : Value → World → Prop} (h : F7 x0 x1 x2 w K) : Calls Try.prog 7 #[x0, x1, x2] w fun e w' => ∃ v, e = .returned v ∧ K v w' := by
  rw [F7_step] at h
  exact calls_of (c := F7_code) mixed Try.func7 rfl (nlt rfl) (vc_sound mixed (orcCons (π := [1, 1, 0, 0, 1, 0, 0, 1, 0, 1, 1, 1, 1]) F7_1_ok (orcCons (π := [0, 1, 0, 1, 1, 1, 1]) F7_2_ok (orcNil F7_code))) F7_code [] rfl F7_code_ok _ _ _ (rsh_out h))

/-! ropewalk/ropewalklaw20.ReasmNobody -/
noncomputable def F8_code : Code := Try.f8.body.getD .skip
theorem F8_code_ok : okC Try.prog Try.f8.ntmps F8_code = true := by kernel_rfl
def F8_1C (K0 : World → Prop) (Kr : Value → World → Prop) : Post := fun o t w => match o with | .normal => False | .exit i => (match Nat.beq i 0 with | true => K0  w | false => False) | .ret => Kr (t 2) w
def F8_1B (R : Value → Value → Value → Value → World → Prop) (K0 : World → Prop) (Kr : Value → World → Prop) (x1 : Value) (x13 : Value) (x14 : Value) (x15 : Value) (w : World) : Prop :=
  rdA x1 fun a1 => rdC x13 fun l2a l2n l2c => rdI .i64 x14 fun n3 => rdI .i64 x15 fun n4 => br (decide ((n4 : Int) < n3)) (ixS 1 l2a l2n n4 fun a5 => ldP a5 w fun p6 => Calls Try.prog 13 #[(.pointer p6)] w fun e8 w7 => exR38 fun s9 => ∃ b10, e8 = .returned (.tuple #[s9.v, (.bool b10)]) ∧ (alc (.cells ((R38.mk 0 0 0 false none 0 0)).c 39) w7 fun b11 w12 => stcL (Addr.mk b11 0 none) 0 s9.l w12 fun w13 => ldI .u32 (a1.add 16) w13 fun n14 => Calls Try.prog 22 #[(.pointer p6), (.int .u32 n14)] w13 fun e16 w15 => ∃ b17, ∃ n18, e16 = .returned (.tuple #[(.bool b17), (.int .i64 n18)]) ∧ (drw w15 fun w19 => ∃ w20 : World, Pres w20 w19 ∧ (ldR35 (a1.add 1) w19 fun s21 => Calls Try.prog 11 #[(.pointer p6), s21.v] w19 fun e23 w22 => ∃ n24, e23 = .returned (.int .i64 n24) ∧ (Pres w20 w22 ∧ (br (n24 != 4) (Kr (.bool false) w22) (br (n18 != 4) (Kr (.bool false) w22) (ldI .u32 (a1.add 16) w22 fun n25 => Calls Try.prog 23 #[(.pointer p6), (.int .u32 n25)] w22 fun e27 w26 => ∃ n28, e27 = .returned (.int .i64 n28) ∧ (Pres w20 w26 ∧ (br (n28 != 4) (Kr (.bool false) w26) (br b10 (Kr (.bool false) w26) (ldI .u32 (a1.add 16) w20 fun n29 => Calls Try.prog 18 #[(.pointer p6)] w26 fun e31 w30 => ∃ n32, e31 = .returned (.int .i64 n32) ∧ (Pres w20 w30 ∧ (Calls Try.prog 16 #[(.pointer p6)] w30 fun e34 w33 => ∃ n35, e34 = .returned (.int .i64 n35) ∧ (Pres w20 w33 ∧ (Calls Try.prog 14 #[(.pointer p6), (.int .u32 n29)] w33 fun e37 w36 => ∃ l38a l38n l38c, e37 = .returned (.slice l38a l38n l38c) ∧ (Calls Try.prog 19 #[(.pointer p6)] w36 fun e40 w39 => ∃ l41a l41n l41c, e40 = .returned (.slice l41a l41n l41c) ∧ (br ((IntKind.wrap .i64 ((IntKind.wrap .i64 ((IntKind.wrap .i64 (n32 + n35)) + (l38n : Int))) + (l41n : Int))) != 0) (Kr (.bool false) w39) (R (.pointer (some a1)) (.slice l2a l2n l2c) (.int .i64 n3) (.int .i64 (IntKind.wrap .i64 (n4 + 1))) w39))))))))))))))))))) (K0 w)
def F8_1 (K0 : World → Prop) (Kr : Value → World → Prop) : Nat → Value → Value → Value → Value → World → Prop
  | 0 => fun _ _ _ _ _ => False
  | n + 1 => F8_1B (F8_1 K0 Kr n) K0 Kr
def F8_1O (Q : Post) (t : Tm) (w : World) : Prop := ∃ n, F8_1 (fun w => ∀ g, rsh [] (upds g []) fun t => Q (.exit 0) t w) (fun y2 w => ∀ g, rsh [(2, (.one .bool))] (upds g [(2, y2)]) fun t => Q .ret t w) n (t 1) (t 13) (t 14) (t 15) w
theorem F8_1_step (K0 : World → Prop) (Kr : Value → World → Prop) (n : Nat) (t : Tm) (w : World) : (F8_1 K0 Kr (n + 1) (t 1) (t 13) (t 14) (t 15) w) = rsh [(1, (.one .adr)), (13, (.one .slc)), (14, (.one (.int .i64))), (15, (.one (.int .i64)))] t (fun t => vc Try.prog (orcOf []) [0, 0, 1, 0, 1, 1] (getAt F8_code [0, 0, 1, 0, 1, 1]) (fun o t w => match o with | .normal => F8_1 K0 Kr n (t 1) (t 13) (t 14) (t 15) w | .exit i => F8_1C K0 Kr (.exit i) t w | .ret => F8_1C K0 Kr .ret t w) t w) := by kernel_rfl
theorem F8_1_ok : ∀ Q t w, F8_1O Q t w → W Try.prog Try.f8.ntmps (getAt F8_code [0, 1, 0, 1, 1]) Q t w := by
  intro Q t w ⟨n, h⟩
  refine (W_loop (P := Try.prog) (b := getAt F8_code [0, 0, 1, 0, 1, 1]) (Q := F8_1C (fun w => ∀ g, rsh [] (upds g []) fun t => Q (.exit 0) t w) (fun y2 w => ∀ g, rsh [(2, (.one .bool))] (upds g [(2, y2)]) fun t => Q .ret t w)) (G := fun n t w => F8_1 (fun w => ∀ g, rsh [] (upds g []) fun t => Q (.exit 0) t w) (fun y2 w => ∀ g, rsh [(2, (.one .bool))] (upds g [(2, y2)]) fun t => Q .ret t w) n (t 1) (t 13) (t 14) (t 15) w) (fun _ _ h => h) (fun n t w h => ?_) n t w h).mono ?_
  · rw [F8_1_step] at h
    exact vc_sound mixed (orcNil F8_code) _ _ rfl (okC_at F8_code_ok [0, 0, 1, 0, 1, 1]) _ _ _ (rsh_out h)
  · intro o t w q
    cases o with
    | normal => exact q.elim
    | exit i =>
      unfold F8_1C at q
      simp only at q
      split at q
      · rename_i hi
        rw [nbeq] at hi
        subst hi
        exact out_ok [] q
      · exact q.elim
    | ret => exact out_ok [2] q
def F8 (x0 : Value) (w : World) (K : Value → World → Prop) : Prop :=
  exR58 fun s1 => x0 = s1.v ∧ (alc (.cells s1.c 59) w fun b2 w3 => alc (.cells ((R69.mk none none 0 none 0 0 0 none 0 0 none 0 0)).c 70) w3 fun b4 w5 => alc (.cells #[(.pointer none), (.pointer (some (Addr.mk b4 0 none)))] 23) w5 fun b6 w7 => ∃ k18 : Nat, F8_1 (fun w9 => ∀ _g10 : Tm, Calls Try.prog 10 #[] w9 fun e12 w11 => ∃ b13, e12 = .returned (.bool b13) ∧ (K (.bool b13) w11)) (fun y2_13 w15 => ∀ _g16 : Tm, rdB y2_13 fun b17 => K (.bool b17) w15) k18 (.pointer (some (Addr.mk b2 0 none))) (.slice (some (Addr.mk b6 0 none)) 2 2) (.int .i64 (2 : Int)) (.int .i64 0) w7)
theorem F8_step (x0 : Value) (w : World) (K : Value → World → Prop) : (F8 x0 w K) = rsh [(0, (.agg [(.int .i64), (.int .u8), (.int .u8), (.int .u32), (.int .u16), (.int .u16), (.int .u32), (.int .u32), (.int .u32), (.int .u16), (.int .u16), .slc, .slc, .slc, .slc, .slc, (.int .u32)]))] (args0 #[x0]) (fun t => vc Try.prog (orcOf [([0, 1, 0, 1, 1], F8_1O)]) [] F8_code (retQ Try.prog Try.f8 K) t w) := by kernel_rfl
theorem F8_ok {x0 : Value} {w : World} {K : Value → World → Prop} (h : F8 x0 w K) : Calls Try.prog 8 #[x0] w fun e w' => ∃ v, e = .returned v ∧ K v w' := by
  rw [F8_step] at h
  exact calls_of (c := F8_code) mixed Try.func8 rfl (nlt rfl) (vc_sound mixed (orcCons (π := [0, 1, 0, 1, 1]) F8_1_ok (orcNil F8_code)) F8_code [] rfl F8_code_ok _ _ _ (rsh_out h))

/-! ropewalk/reasm.New -/
noncomputable def F9_code : Code := Try.f9.body.getD .skip
theorem F9_code_ok : okC Try.prog Try.f9.ntmps F9_code = true := by kernel_rfl
def F9_1C (Kr : Value → Value → World → Prop) : Post := fun o t w => match o with | .normal => False | .exit _ => (False) | .ret => Kr (t 4) (t 5) w
def F9_1 (Kr : Value → Value → World → Prop) (x0 : Value) (x1 : Value) (w : World) : Prop :=
  rdI .i64 x0 fun n1 => rdI .i64 x1 fun n2 => alc (.map #[] 0) w fun b3 w4 => alc (.map #[] 0) w4 fun b5 w6 => ∃ l7a l7n l7c, ∃ w8, Sem.run Try.prog (Instr.makeSlice 46 (.int .i64 n1) (.int .i64 n1)) w6 = .ok (.slice l7a l7n l7c) w8 ∧ (alc (.cells ((R69.mk (some b3) (some b5) 0 l7a l7n l7c n2 none 0 0 none 0 0)).c 70) w8 fun b9 w10 => Kr (.pointer (some (Addr.mk b9 0 none))) (.int .i64 0) w10)
def F9_1O (Q : Post) (t : Tm) (w : World) : Prop := F9_1 (fun y4 y5 w => ∀ g, rsh [(4, (.one .ptr)), (5, (.one (.int .i64)))] (upds g [(4, y4), (5, y5)]) fun t => Q .ret t w) (t 0) (t 1) w
theorem F9_1_step (Kr : Value → Value → World → Prop) (t : Tm) (w : World) : (F9_1 Kr (t 0) (t 1) w) = rsh [(0, (.one (.int .i64))), (1, (.one (.int .i64)))] t (fun t => vc Try.prog (orcOf []) [1, 1] (getAt F9_code [1, 1]) (F9_1C Kr) t w) := by kernel_rfl
theorem F9_1_ok : ∀ Q t w, F9_1O Q t w → W Try.prog Try.f9.ntmps (getAt F9_code [1, 1]) Q t w := by
  intro Q t w h
  unfold F9_1O at h
  rw [F9_1_step] at h
  refine (vc_sound mixed (orcNil F9_code) _ _ rfl (okC_at F9_code_ok [1, 1]) _ _ _ (rsh_out h)).mono ?_
  intro o t w q
  cases o with
  | normal => exact q.elim
  | exit i => exact q.elim
  | ret => exact out_ok [4, 5] q
def F9 (x0 : Value) (x1 : Value) (w : World) (K : Value → World → Prop) : Prop :=
  rdI .i64 x0 fun n1 => rdI .i64 x1 fun n2 => br (decide ((n1 : Int) < 1)) (K (.tuple #[(.pointer none), (.int .i64 1)]) w) (br (decide ((n1 : Int) > 1024)) (K (.tuple #[(.pointer none), (.int .i64 1)]) w) (br (decide ((n2 : Int) < 1)) (K (.tuple #[(.pointer none), (.int .i64 1)]) w) (br (decide ((n2 : Int) > 1073741824)) (K (.tuple #[(.pointer none), (.int .i64 1)]) w) (F9_1 (fun y4_2 y5_2 w4 => ∀ _g5 : Tm, rdP y4_2 fun p6 => rdI .i64 y5_2 fun n7 => K (.tuple #[(.pointer p6), (.int .i64 n7)]) w4) (.int .i64 n1) (.int .i64 n2) w))))
theorem F9_step (x0 : Value) (x1 : Value) (w : World) (K : Value → World → Prop) : (F9 x0 x1 w K) = rsh [(0, (.one (.int .i64))), (1, (.one (.int .i64)))] (args0 #[x0, x1]) (fun t => vc Try.prog (orcOf [([1, 1], F9_1O)]) [] F9_code (retQ Try.prog Try.f9 K) t w) := by kernel_rfl
theorem F9_ok {x0 x1 : Value} {w : World} {K : Value → World → Prop} (h : F9 x0 x1 w K) : Calls Try.prog 9 #[x0, x1] w fun e w' => ∃ v, e = .returned v ∧ K v w' := by
  rw [F9_step] at h
  exact calls_of (c := F9_code) mixed Try.func9 rfl (nlt rfl) (vc_sound mixed (orcCons (π := [1, 1]) F9_1_ok (orcNil F9_code)) F9_code [] rfl F9_code_ok _ _ _ (rsh_out h))

/-! ropewalk/ropewalklaw20.awake -/
noncomputable def F10_code : Code := Try.f10.body.getD .skip
theorem F10_code_ok : okC Try.prog Try.f10.ntmps F10_code = true := by kernel_rfl
def F10_1C (K0 : Value → World → Prop) (Kr : Value → World → Prop) : Post := fun o t w => match o with | .normal => False | .exit i => (match Nat.beq i 0 with | true => K0 (t 1) w | false => False) | .ret => Kr (t 0) w
def F10_1B (R : Value → Value → Value → World → Prop) (K0 : Value → World → Prop) (Kr : Value → World → Prop) (x1 : Value) (x3 : Value) (x4 : Value) (w : World) : Prop :=
  rdP x1 fun p1 => rdC x3 fun l2a l2n l2c => rdI .i64 x4 fun n3 => br (decide ((n3 : Int) < (l2n : Int))) (ixS 15 l2a l2n n3 fun a4 => ldR35 a4 w fun s5 => Calls Try.prog 11 #[(.pointer p1), s5.v] w fun e7 w6 => ∃ n8, e7 = .returned (.int .i64 n8) ∧ (br (n8 != 0) (Kr (.bool false) w6) (R (.pointer p1) (.slice l2a l2n l2c) (.int .i64 (IntKind.wrap .i64 (n3 + 1))) w6))) (K0 (.pointer p1) w)
def F10_1 (K0 : Value → World → Prop) (Kr : Value → World → Prop) : Nat → Value → Value → Value → World → Prop
  | 0 => fun _ _ _ _ => False
  | n + 1 => F10_1B (F10_1 K0 Kr n) K0 Kr
def F10_1O (Q : Post) (t : Tm) (w : World) : Prop := ∃ n, F10_1 (fun y1 w => ∀ g, rsh [(1, (.one .ptr))] (upds g [(1, y1)]) fun t => Q (.exit 0) t w) (fun y0 w => ∀ g, rsh [(0, (.one .bool))] (upds g [(0, y0)]) fun t => Q .ret t w) n (t 1) (t 3) (t 4) w
theorem F10_1_step (K0 : Value → World → Prop) (Kr : Value → World → Prop) (n : Nat) (t : Tm) (w : World) : (F10_1 K0 Kr (n + 1) (t 1) (t 3) (t 4) w) = rsh [(1, (.one .ptr)), (3, (.one .slc)), (4, (.one (.int .i64)))] t (fun t => vc Try.prog (orcOf []) [0, 0, 1, 0, 1, 1, 1, 1] (getAt F10_code [0, 0, 1, 0, 1, 1, 1, 1]) (fun o t w => match o with | .normal => F10_1 K0 Kr n (t 1) (t 3) (t 4) w | .exit i => F10_1C K0 Kr (.exit i) t w | .ret => F10_1C K0 Kr .ret t w) t w) := by kernel_rfl
theorem F10_1_ok : ∀ Q t w, F10_1O Q t w → W Try.prog Try.f10.ntmps (getAt F10_code [0, 1, 0, 1, 1, 1, 1]) Q t w := by
  intro Q t w ⟨n, h⟩
  refine (W_loop (P := Try.prog) (b := getAt F10_code [0, 0, 1, 0, 1, 1, 1, 1]) (Q := F10_1C (fun y1 w => ∀ g, rsh [(1, (.one .ptr))] (upds g [(1, y1)]) fun t => Q (.exit 0) t w) (fun y0 w => ∀ g, rsh [(0, (.one .bool))] (upds g [(0, y0)]) fun t => Q .ret t w)) (G := fun n t w => F10_1 (fun y1 w => ∀ g, rsh [(1, (.one .ptr))] (upds g [(1, y1)]) fun t => Q (.exit 0) t w) (fun y0 w => ∀ g, rsh [(0, (.one .bool))] (upds g [(0, y0)]) fun t => Q .ret t w) n (t 1) (t 3) (t 4) w) (fun _ _ h => h) (fun n t w h => ?_) n t w h).mono ?_
  · rw [F10_1_step] at h
    exact vc_sound mixed (orcNil F10_code) _ _ rfl (okC_at F10_code_ok [0, 0, 1, 0, 1, 1, 1, 1]) _ _ _ (rsh_out h)
  · intro o t w q
    cases o with
    | normal => exact q.elim
    | exit i =>
      unfold F10_1C at q
      simp only at q
      split at q
      · rename_i hi
        rw [nbeq] at hi
        subst hi
        exact out_ok [1] q
      · exact q.elim
    | ret => exact out_ok [0] q
def F10_2C (Kr : Value → World → Prop) : Post := fun o t w => match o with | .normal => False | .exit _ => (False) | .ret => Kr (t 0) w
def F10_2 (Kr : Value → World → Prop) (x1 : Value) (w : World) : Prop :=
  rdP x1 fun p1 => alc (.cells #[(.int .u8 99)] 5) w fun b2 w3 => Calls Try.prog 12 #[(.int .u32 7), (.int .u8 2), (.int .u16 0), (.int .u16 1), (.slice (some (Addr.mk b2 0 none)) 1 1)] w3 fun e5 w4 => exR35 fun s6 => e5 = .returned s6.v ∧ (alc (.cells #[(.int .u8 97)] 5) w4 fun b7 w8 => Calls Try.prog 12 #[(.int .u32 5), (.int .u8 2), (.int .u16 0), (.int .u16 0), (.slice (some (Addr.mk b7 0 none)) 1 1)] w8 fun e10 w9 => exR35 fun s11 => e10 = .returned s11.v ∧ (alc (.cells #[(.int .u8 100)] 5) w9 fun b12 w13 => Calls Try.prog 12 #[(.int .u32 8), (.int .u8 1), (.int .u16 0), (.int .u16 1), (.slice (some (Addr.mk b12 0 none)) 1 1)] w13 fun e15 w14 => exR35 fun s16 => e15 = .returned s16.v ∧ (alc (.cells #[(.int .u8 98)] 5) w14 fun b17 w18 => Calls Try.prog 12 #[(.int .u32 6), (.int .u8 1), (.int .u16 0), (.int .u16 0), (.slice (some (Addr.mk b17 0 none)) 1 1)] w18 fun e20 w19 => exR35 fun s21 => e20 = .returned s21.v ∧ (alc (.cells #[(.int .u8 s6.f0), (.int .u8 s6.f1), (.int .u32 s6.f2), (.int .u16 s6.f3), (.int .u16 s6.f4), (.int .u32 s6.f5), (.int .u32 s6.f6), (.int .u32 s6.f7), (.int .u16 s6.f8), (.int .u16 s6.f9), (.slice s6.f10a s6.f10n s6.f10c), (.slice s6.f11a s6.f11n s6.f11c), (.slice s6.f12a s6.f12n s6.f12c), (.slice s6.f13a s6.f13n s6.f13c), (.slice s6.f14a s6.f14n s6.f14c), (.int .u8 s11.f0), (.int .u8 s11.f1), (.int .u32 s11.f2), (.int .u16 s11.f3), (.int .u16 s11.f4), (.int .u32 s11.f5), (.int .u32 s11.f6), (.int .u32 s11.f7), (.int .u16 s11.f8), (.int .u16 s11.f9), (.slice s11.f10a s11.f10n s11.f10c), (.slice s11.f11a s11.f11n s11.f11c), (.slice s11.f12a s11.f12n s11.f12c), (.slice s11.f13a s11.f13n s11.f13c), (.slice s11.f14a s11.f14n s11.f14c), (.int .u8 s16.f0), (.int .u8 s16.f1), (.int .u32 s16.f2), (.int .u16 s16.f3), (.int .u16 s16.f4), (.int .u32 s16.f5), (.int .u32 s16.f6), (.int .u32 s16.f7), (.int .u16 s16.f8), (.int .u16 s16.f9), (.slice s16.f10a s16.f10n s16.f10c), (.slice s16.f11a s16.f11n s16.f11c), (.slice s16.f12a s16.f12n s16.f12c), (.slice s16.f13a s16.f13n s16.f13c), (.slice s16.f14a s16.f14n s16.f14c), (.int .u8 s21.f0), (.int .u8 s21.f1), (.int .u32 s21.f2), (.int .u16 s21.f3), (.int .u16 s21.f4), (.int .u32 s21.f5), (.int .u32 s21.f6), (.int .u32 s21.f7), (.int .u16 s21.f8), (.int .u16 s21.f9), (.slice s21.f10a s21.f10n s21.f10c), (.slice s21.f11a s21.f11n s21.f11c), (.slice s21.f12a s21.f12n s21.f12c), (.slice s21.f13a s21.f13n s21.f13c), (.slice s21.f14a s21.f14n s21.f14c)] 36) w19 fun b22 w23 => ∃ k61 : Nat, F10_1 (fun y1_23 w25 => ∀ _g26 : Tm, rdP y1_23 fun p27 => Calls Try.prog 13 #[(.pointer p27)] w25 fun e29 w28 => exR38 fun s30 => ∃ b31, e29 = .returned (.tuple #[s30.v, (.bool b31)]) ∧ (alc (.cells ((R38.mk 0 0 0 false none 0 0)).c 39) w28 fun b32 w33 => stcL (Addr.mk b32 0 none) 0 s30.l w33 fun w34 => Calls Try.prog 13 #[(.pointer p27)] w34 fun e36 w35 => exR38 fun s37 => ∃ b38, e36 = .returned (.tuple #[s37.v, (.bool b38)]) ∧ (alc (.cells ((R38.mk 0 0 0 false none 0 0)).c 39) w35 fun b39 w40 => stcL (Addr.mk b39 0 none) 0 s37.l w40 fun w41 => ldC ((Addr.mk b32 0 none).add 4) w41 fun l42a l42n l42c => ∃ s43, ∃ w44, Sem.run Try.prog (convert 22 9 (.slice l42a l42n l42c)) w41 = .ok (.string s43) w44 ∧ (br (ByteArray.toList s43 == ByteArray.toList ⟨#[97, 98]⟩) (ldC ((Addr.mk b39 0 none).add 4) w44 fun l45a l45n l45c => ∃ s46, ∃ w47, Sem.run Try.prog (convert 22 9 (.slice l45a l45n l45c)) w44 = .ok (.string s46) w47 ∧ (br (ByteArray.toList s46 == ByteArray.toList ⟨#[99, 100]⟩) (ldI .u16 ((Addr.mk b39 0 none).add 1) w47 fun n48 => br (n48 == 1) (Calls Try.prog 14 #[(.pointer p27), (.int .u32 4)] w47 fun e50 w49 => ∃ l51a l51n l51c, e50 = .returned (.slice l51a l51n l51c) ∧ (alc (.cells #[(.int .u32 5), (.int .u32 6), (.int .u32 7), (.int .u32 8)] 30) w49 fun b52 w53 => Calls Try.prog 15 #[(.slice l51a l51n l51c), (.slice (some (Addr.mk b52 0 none)) 4 4)] w53 fun e55 w54 => ∃ b56, e55 = .returned (.bool b56) ∧ (Kr (.bool b56) w54))) (Kr (.bool false) w47)) (Kr (.bool false) w47))) (Kr (.bool false) w44))))) (fun y0_56 w58 => ∀ _g59 : Tm, rdB y0_56 fun b60 => Kr (.bool b60) w58) k61 (.pointer p1) (.slice (some (Addr.mk b22 0 none)) 4 4) (.int .i64 0) w23))))
def F10_2O (Q : Post) (t : Tm) (w : World) : Prop := F10_2 (fun y0 w => ∀ g, rsh [(0, (.one .bool))] (upds g [(0, y0)]) fun t => Q .ret t w) (t 1) w
theorem F10_2_step (Kr : Value → World → Prop) (t : Tm) (w : World) : (F10_2 Kr (t 1) w) = rsh [(1, (.one .ptr))] t (fun t => vc Try.prog (orcOf [([0, 1, 0, 1, 1, 1, 1], F10_1O)]) [1, 1, 1] (getAt F10_code [1, 1, 1]) (F10_2C Kr) t w) := by kernel_rfl
theorem F10_2_ok : ∀ Q t w, F10_2O Q t w → W Try.prog Try.f10.ntmps (getAt F10_code [1, 1, 1]) Q t w := by
  intro Q t w h
  unfold F10_2O at h
  rw [F10_2_step] at h
  refine (vc_sound mixed (orcCons (π := [0, 1, 0, 1, 1, 1, 1]) F10_1_ok (orcNil F10_code)) _ _ rfl (okC_at F10_code_ok [1, 1, 1]) _ _ _ (rsh_out h)).mono ?_
  intro o t w q
  cases o with
  | normal => exact q.elim
  | exit i => exact q.elim
  | ret => exact out_ok [0] q
def F10 (w : World) (K : Value → World → Prop) : Prop :=
  Calls Try.prog 9 #[(.int .i64 1), (.int .i64 100)] w fun e2 w1 => ∃ p3, ∃ n4, e2 = .returned (.tuple #[(.pointer p3), (.int .i64 n4)]) ∧ (br (n4 != 0) (K (.bool false) w1) (br (Option.isNone p3) (K (.bool false) w1) (F10_2 (fun y0_4 w6 => ∀ _g7 : Tm, rdB y0_4 fun b8 => K (.bool b8) w6) (.pointer p3) w1)))
theorem F10_step (w : World) (K : Value → World → Prop) : (F10  w K) = rsh [] (args0 #[]) (fun t => vc Try.prog (orcOf [([0, 1, 0, 1, 1, 1, 1], F10_1O), ([1, 1, 1], F10_2O)]) [] F10_code (retQ Try.prog Try.f10 K) t w) := by kernel_rfl
theorem F10_ok {w : World} {K : Value → World → Prop} (h : F10 w K) : Calls Try.prog 10 #[] w fun e w' => ∃ v, e = .returned v ∧ K v w' := by
  rw [F10_step] at h
  exact calls_of (c := F10_code) mixed Try.func10 rfl (nlt rfl) (vc_sound mixed (orcCons (π := [0, 1, 0, 1, 1, 1, 1]) F10_1_ok (orcCons (π := [1, 1, 1]) F10_2_ok (orcNil F10_code))) F10_code [] rfl F10_code_ok _ _ _ (rsh_out h))

/-! (*ropewalk/reasm.Table).Put -/
noncomputable def F11_code : Code := Try.f11.body.getD .skip
theorem F11_code_ok : okC Try.prog Try.f11.ntmps F11_code = true := by kernel_rfl
def F11_1C (Kn : World → Prop) : Post := fun o _ w => match o with | .normal => Kn  w | .exit _ => (False) | .ret => False
def F11_1 (Kn : World → Prop) (x0 : Value) (x3 : Value) (x5 : Value) (x6 : Value) (x123 : Value) (w : World) : Prop :=
  rdP x0 fun p1 => rdA x3 fun a2 => rdC x5 fun l3a l3n l3c => rdA x6 fun a4 => rdB x123 fun b5 => br b5 (ldR35 a4 w fun s6 => Calls Try.prog 30 #[s6.v, (.int .u8 4)] w fun e8 w7 => ∃ b9, e8 = .returned (.bool b9) ∧ (br b9 (Calls Try.prog 31 #[(.pointer p1), (.slice l3a l3n l3c)] w7 fun e11 w10 => e11 = .returned (.tuple #[]) ∧ (Kn w10)) (nn p1 fun a12 => ldC (a12.add 5) w7 fun l13a l13n l13c => alc (.cells #[(.slice l3a l3n l3c)] 33) w7 fun b14 w15 => ∃ l16a l16n l16c w17, Sem.run Try.prog (Builtin.append_ #[68, 68] 68 #[(.slice l13a l13n l13c), (.slice (some (Addr.mk b14 0 none)) 1 1)]) w15 = .ok (.slice l16a l16n l16c) w17 ∧ (nn p1 fun a18 => stc (a18.add 5) (.slice l16a l16n l16c) w17 fun w19 => ldI .u16 (a2.add 3) w19 fun n20 => Calls Try.prog 32 #[(.pointer p1), (.int .u16 n20)] w19 fun e22 w21 => e22 = .returned (.tuple #[]) ∧ (Kn w21))))) (Kn w)
def F11_1O (Q : Post) (t : Tm) (w : World) : Prop := F11_1 (fun w => ∀ g, rsh [] (upds g []) fun t => Q .normal t w) (t 0) (t 3) (t 5) (t 6) (t 123) w
theorem F11_1_step (Kn : World → Prop) (t : Tm) (w : World) : (F11_1 Kn (t 0) (t 3) (t 5) (t 6) (t 123) w) = rsh [(0, (.one .ptr)), (3, (.one .adr)), (5, (.one .slc)), (6, (.one .adr)), (123, (.one .bool))] t (fun t => vc Try.prog (orcOf []) [1, 0, 1, 1, 1, 1, 1, 1, 1] (getAt F11_code [1, 0, 1, 1, 1, 1, 1, 1, 1]) (F11_1C Kn) t w) := by kernel_rfl
theorem F11_1_ok : ∀ Q t w, F11_1O Q t w → W Try.prog Try.f11.ntmps (getAt F11_code [1, 0, 1, 1, 1, 1, 1, 1, 1]) Q t w := by
  intro Q t w h
  unfold F11_1O at h
  rw [F11_1_step] at h
  refine (vc_sound mixed (orcNil F11_code) _ _ rfl (okC_at F11_code_ok [1, 0, 1, 1, 1, 1, 1, 1, 1]) _ _ _ (rsh_out h)).mono ?_
  intro o t w q
  cases o with
  | normal => exact out_ok [] q
  | exit i => exact q.elim
  | ret => exact q.elim
def F11_2C (Kr : Value → World → Prop) : Post := fun o t w => match o with | .normal => False | .exit _ => (False) | .ret => Kr (t 4) w
def F11_2 (Kr : Value → World → Prop) (x0 : Value) (x3 : Value) (x5 : Value) (x6 : Value) (x7 : Value) (w : World) : Prop :=
  rdP x0 fun p1 => rdA x3 fun a2 => rdC x5 fun l3a l3n l3c => rdA x6 fun a4 => rdA x7 fun a5 => ldR35 a4 w fun s6 => Calls Try.prog 30 #[s6.v, (.int .u8 2)] w fun e8 w7 => ∃ b9, e8 = .returned (.bool b9) ∧ (br b9 (ldR35 a5 w7 fun s10 => Calls Try.prog 30 #[s10.v, (.int .u8 1)] w7 fun e12 w11 => ∃ b13, e12 = .returned (.bool b13) ∧ (F11_1 (fun w15 => ∀ _g16 : Tm, Kr (.int .i64 0) w15) (.pointer p1) (.pointer (some a2)) (.slice l3a l3n l3c) (.pointer (some a4)) (.bool b13) w11)) (F11_1 (fun w18 => ∀ _g19 : Tm, Kr (.int .i64 0) w18) (.pointer p1) (.pointer (some a2)) (.slice l3a l3n l3c) (.pointer (some a4)) (.bool false) w7))
def F11_2O (Q : Post) (t : Tm) (w : World) : Prop := F11_2 (fun y4 w => ∀ g, rsh [(4, (.one (.int .i64)))] (upds g [(4, y4)]) fun t => Q .ret t w) (t 0) (t 3) (t 5) (t 6) (t 7) w
theorem F11_2_step (Kr : Value → World → Prop) (t : Tm) (w : World) : (F11_2 Kr (t 0) (t 3) (t 5) (t 6) (t 7) w) = rsh [(0, (.one .ptr)), (3, (.one .adr)), (5, (.one .slc)), (6, (.one .adr)), (7, (.one .adr))] t (fun t => vc Try.prog (orcOf [([1, 0, 1, 1, 1, 1, 1, 1, 1], F11_1O)]) [1, 1, 1, 1, 1, 1, 1] (getAt F11_code [1, 1, 1, 1, 1, 1, 1]) (F11_2C Kr) t w) := by kernel_rfl
theorem F11_2_ok : ∀ Q t w, F11_2O Q t w → W Try.prog Try.f11.ntmps (getAt F11_code [1, 1, 1, 1, 1, 1, 1]) Q t w := by
  intro Q t w h
  unfold F11_2O at h
  rw [F11_2_step] at h
  refine (vc_sound mixed (orcCons (π := [1, 0, 1, 1, 1, 1, 1, 1, 1]) F11_1_ok (orcNil F11_code)) _ _ rfl (okC_at F11_code_ok [1, 1, 1, 1, 1, 1, 1]) _ _ _ (rsh_out h)).mono ?_
  intro o t w q
  cases o with
  | normal => exact q.elim
  | exit i => exact q.elim
  | ret => exact out_ok [4] q
def F11_3C (Kn : Value → Value → World → Prop) (Kr : Value → World → Prop) : Post := fun o t w => match o with | .normal => Kn (t 0) (t 3) w | .exit _ => (False) | .ret => Kr (t 4) w
def F11_3 (Kn : Value → Value → World → Prop) (Kr : Value → World → Prop) (x0 : Value) (x3 : Value) (x12 : Value) (w : World) : Prop :=
  rdP x0 fun p1 => rdA x3 fun a2 => rdB x12 fun b3 => br b3 (Kr (.int .i64 201) w) (drw w fun w4 => ldI .u16 (a2.add 3) w4 fun n5 => nn p1 fun a6 => ldC (a6.add 3) w4 fun _ l7n _ => br (decide (((IntKind.wrap .i64 (n5)) : Int) ≥ (l7n : Int))) (Kr (.int .i64 160) w4) (drw w4 fun w8 => nn p1 fun a9 => ldI .u32 (a2.add 2) w8 fun n10 => Calls Try.prog 25 #[(.pointer (some (a9.add 0))), (.int .u32 n10)] w8 fun e12 w11 => ∃ b13, e12 = .returned (.bool b13) ∧ (br b13 (Kr (.int .i64 200) w11) (drw w11 fun w14 => ldC (a2.add 13) w14 fun _ l15n _ => nn p1 fun a16 => ldI .i64 (a16.add 4) w14 fun n17 => nn p1 fun a18 => ldI .i64 ((a18.add 0).add 2) w14 fun n19 => br (decide (((l15n : Int) : Int) > (IntKind.wrap .i64 (n17 - n19)))) (Kr (.int .i64 161) w14) (nn p1 fun a20 => Calls Try.prog 26 #[(.pointer (some (a20.add 0)))] w14 fun e22 w21 => ∃ n23, e22 = .returned (.int .i64 n23) ∧ (br (decide ((n23 : Int) ≥ 32768)) (Kr (.int .i64 3) w21) (Kn (.pointer p1) (.pointer (some a2)) w21)))))))
def F11_3O (Q : Post) (t : Tm) (w : World) : Prop := F11_3 (fun y0 y3 w => ∀ g, rsh [(0, (.one .ptr)), (3, (.one .adr))] (upds g [(0, y0), (3, y3)]) fun t => Q .normal t w) (fun y4 w => ∀ g, rsh [(4, (.one (.int .i64)))] (upds g [(4, y4)]) fun t => Q .ret t w) (t 0) (t 3) (t 12) w
theorem F11_3_step (Kn : Value → Value → World → Prop) (Kr : Value → World → Prop) (t : Tm) (w : World) : (F11_3 Kn Kr (t 0) (t 3) (t 12) w) = rsh [(0, (.one .ptr)), (3, (.one .adr)), (12, (.one .bool))] t (fun t => vc Try.prog (orcOf []) [1, 1, 1, 0, 0, 1] (getAt F11_code [1, 1, 1, 0, 0, 1]) (F11_3C Kn Kr) t w) := by kernel_rfl
theorem F11_3_ok : ∀ Q t w, F11_3O Q t w → W Try.prog Try.f11.ntmps (getAt F11_code [1, 1, 1, 0, 0, 1]) Q t w := by
  intro Q t w h
  unfold F11_3O at h
  rw [F11_3_step] at h
  refine (vc_sound mixed (orcNil F11_code) _ _ rfl (okC_at F11_code_ok [1, 1, 1, 0, 0, 1]) _ _ _ (rsh_out h)).mono ?_
  intro o t w q
  cases o with
  | normal => exact out_ok [0, 3] q
  | exit i => exact q.elim
  | ret => exact out_ok [4] q
def F11 (x0 : Value) (x1 : Value) (w : World) (K : Value → World → Prop) : Prop :=
  rdP x0 fun p1 => exR35 fun s2 => x1 = s2.v ∧ (alc (.cells s2.c 36) w fun b3 w4 => Calls Try.prog 24 #[(.pointer p1)] w4 fun e6 w5 => ∃ b7, e6 = .returned (.bool b7) ∧ (br (!b7) (K (.int .i64 4) w5) (ldI .u8 ((Addr.mk b3 0 none).add 0) w5 fun n8 => br (n8 != 0) (F11_3 (fun y0_8 y3_8 w10 => ∀ _g11 : Tm, rdP y0_8 fun p12 => rdA y3_8 fun a13 => ldC (a13.add 13) w10 fun l14a l14n l14c => Calls Try.prog 27 #[(.slice l14a l14n l14c)] w10 fun e16 w15 => ∃ l17a l17n l17c, e16 = .returned (.slice l17a l17n l17c) ∧ (stc (a13.add 13) (.slice l17a l17n l17c) w15 fun w18 => drw w18 fun w19 => nn p12 fun a20 => ldM ((a20.add 0).add 0) w19 fun m21 => ldI .u32 (a13.add 2) w19 fun n22 => ldR35 a13 w19 fun s23 => ∃ w24, Sem.run Try.prog (Instr.mapUpdate 64 (.map m21) (.int .u32 n22) s23.v) w19 = .ok () w24 ∧ (drw w24 fun w25 => nn p12 fun a26 => ldI .i64 ((a26.add 0).add 2) w25 fun n27 => ldC (a13.add 13) w25 fun _ l28n _ => nn p12 fun a29 => stc ((a29.add 0).add 2) (.int .i64 (IntKind.wrap .i64 (n27 + (l28n : Int)))) w25 fun w30 => drw w30 fun w31 => nn p12 fun a32 => ldI .u32 (a13.add 2) w31 fun n33 => Calls Try.prog 29 #[(.pointer (some (a32.add 0))), (.int .u32 n33)] w31 fun e35 w34 => ∃ v36, e35 = .returned v36 ∧ (Calls Try.prog 28 #[v36] w34 fun e38 w37 => ∃ l39a l39n l39c, e38 = .returned (.slice l39a l39n l39c) ∧ (drw w37 fun w40 => ∃ w41 : World, Pres w41 w40 ∧ (nn p12 fun a42 => ldM ((a42.add 0).add 0) w41 fun m43 => ixS 1 l39a l39n 0 fun a44 => ldI .u32 a44 w41 fun n45 => exR35 fun s46 => lookF Try.prog 30 36 (.map m43) (.int .u32 n45) false w41 = some s46.v ∧ (nn p12 fun a47 => ldM ((a47.add 0).add 0) w41 fun m48 => ixS 1 l39a l39n (IntKind.wrap .i64 ((l39n : Int) - 1)) fun a49 => ldI .u32 a49 w41 fun n50 => exR35 fun s51 => lookF Try.prog 30 36 (.map m48) (.int .u32 n50) false w41 = some s51.v ∧ (((alc (.cells ((R35.mk 0 0 0 0 0 0 0 0 0 0 none 0 0 none 0 0 none 0 0 none 0 0 none 0 0)).c 36) w40 fun b52 w53 => Pres w41 w53 ∧ (alc (.cells ((R35.mk 0 0 0 0 0 0 0 0 0 0 none 0 0 none 0 0 none 0 0 none 0 0 none 0 0)).c 36) w53 fun b54 w55 => Pres w41 w55 ∧ (stcL (Addr.mk b52 0 none) 0 s46.l w55 fun w56 => Pres w41 w56 ∧ (stcL (Addr.mk b54 0 none) 0 s51.l w56 fun w57 => F11_2 (fun y4_57 w59 => ∀ _g60 : Tm, rdI .i64 y4_57 fun n61 => K (.int .i64 n61) w59) (.pointer p12) (.pointer (some a13)) (.slice l39a l39n l39c) (.pointer (some (Addr.mk b52 0 none))) (.pointer (some (Addr.mk b54 0 none))) w57)))) ∧ (alc (.cells ((R35.mk 0 0 0 0 0 0 0 0 0 0 none 0 0 none 0 0 none 0 0 none 0 0 none 0 0)).c 36) w40 fun b62 w63 => Pres w41 w63 ∧ (alc (.cells ((R35.mk 0 0 0 0 0 0 0 0 0 0 none 0 0 none 0 0 none 0 0 none 0 0 none 0 0)).c 36) w63 fun b64 w65 => Pres w41 w65 ∧ (stcL (Addr.mk b64 0 none) 0 s46.l w65 fun w66 => Pres w41 w66 ∧ (stcL (Addr.mk b62 0 none) 0 s51.l w66 fun w67 => F11_2 (fun y4_67 w69 => ∀ _g70 : Tm, rdI .i64 y4_67 fun n71 => K (.int .i64 n71) w69) (.pointer p12) (.pointer (some a13)) (.slice l39a l39n l39c) (.pointer (some (Addr.mk b64 0 none))) (.pointer (some (Addr.mk b62 0 none))) w67))))))))))))) (fun y4_71 w73 => ∀ _g74 : Tm, rdI .i64 y4_71 fun n75 => K (.int .i64 n75) w73) (.pointer p1) (.pointer (some (Addr.mk b3 0 none))) (.bool true) w5) (ldC ((Addr.mk b3 0 none).add 13) w5 fun _ l76n _ => br ((l76n : Int) == 0) (F11_3 (fun y0_76 y3_76 w78 => ∀ _g79 : Tm, rdP y0_76 fun p80 => rdA y3_76 fun a81 => ldC (a81.add 13) w78 fun l82a l82n l82c => Calls Try.prog 27 #[(.slice l82a l82n l82c)] w78 fun e84 w83 => ∃ l85a l85n l85c, e84 = .returned (.slice l85a l85n l85c) ∧ (stc (a81.add 13) (.slice l85a l85n l85c) w83 fun w86 => drw w86 fun w87 => nn p80 fun a88 => ldM ((a88.add 0).add 0) w87 fun m89 => ldI .u32 (a81.add 2) w87 fun n90 => ldR35 a81 w87 fun s91 => ∃ w92, Sem.run Try.prog (Instr.mapUpdate 64 (.map m89) (.int .u32 n90) s91.v) w87 = .ok () w92 ∧ (drw w92 fun w93 => nn p80 fun a94 => ldI .i64 ((a94.add 0).add 2) w93 fun n95 => ldC (a81.add 13) w93 fun _ l96n _ => nn p80 fun a97 => stc ((a97.add 0).add 2) (.int .i64 (IntKind.wrap .i64 (n95 + (l96n : Int)))) w93 fun w98 => drw w98 fun w99 => nn p80 fun a100 => ldI .u32 (a81.add 2) w99 fun n101 => Calls Try.prog 29 #[(.pointer (some (a100.add 0))), (.int .u32 n101)] w99 fun e103 w102 => ∃ v104, e103 = .returned v104 ∧ (Calls Try.prog 28 #[v104] w102 fun e106 w105 => ∃ l107a l107n l107c, e106 = .returned (.slice l107a l107n l107c) ∧ (drw w105 fun w108 => ∃ w109 : World, Pres w109 w108 ∧ (nn p80 fun a110 => ldM ((a110.add 0).add 0) w109 fun m111 => ixS 1 l107a l107n 0 fun a112 => ldI .u32 a112 w109 fun n113 => exR35 fun s114 => lookF Try.prog 30 36 (.map m111) (.int .u32 n113) false w109 = some s114.v ∧ (nn p80 fun a115 => ldM ((a115.add 0).add 0) w109 fun m116 => ixS 1 l107a l107n (IntKind.wrap .i64 ((l107n : Int) - 1)) fun a117 => ldI .u32 a117 w109 fun n118 => exR35 fun s119 => lookF Try.prog 30 36 (.map m116) (.int .u32 n118) false w109 = some s119.v ∧ (((alc (.cells ((R35.mk 0 0 0 0 0 0 0 0 0 0 none 0 0 none 0 0 none 0 0 none 0 0 none 0 0)).c 36) w108 fun b120 w121 => Pres w109 w121 ∧ (alc (.cells ((R35.mk 0 0 0 0 0 0 0 0 0 0 none 0 0 none 0 0 none 0 0 none 0 0 none 0 0)).c 36) w121 fun b122 w123 => Pres w109 w123 ∧ (stcL (Addr.mk b120 0 none) 0 s114.l w123 fun w124 => Pres w109 w124 ∧ (stcL (Addr.mk b122 0 none) 0 s119.l w124 fun w125 => F11_2 (fun y4_125 w127 => ∀ _g128 : Tm, rdI .i64 y4_125 fun n129 => K (.int .i64 n129) w127) (.pointer p80) (.pointer (some a81)) (.slice l107a l107n l107c) (.pointer (some (Addr.mk b120 0 none))) (.pointer (some (Addr.mk b122 0 none))) w125)))) ∧ (alc (.cells ((R35.mk 0 0 0 0 0 0 0 0 0 0 none 0 0 none 0 0 none 0 0 none 0 0 none 0 0)).c 36) w108 fun b130 w131 => Pres w109 w131 ∧ (alc (.cells ((R35.mk 0 0 0 0 0 0 0 0 0 0 none 0 0 none 0 0 none 0 0 none 0 0 none 0 0)).c 36) w131 fun b132 w133 => Pres w109 w133 ∧ (stcL (Addr.mk b132 0 none) 0 s114.l w133 fun w134 => Pres w109 w134 ∧ (stcL (Addr.mk b130 0 none) 0 s119.l w134 fun w135 => F11_2 (fun y4_135 w137 => ∀ _g138 : Tm, rdI .i64 y4_135 fun n139 => K (.int .i64 n139) w137) (.pointer p80) (.pointer (some a81)) (.slice l107a l107n l107c) (.pointer (some (Addr.mk b132 0 none))) (.pointer (some (Addr.mk b130 0 none))) w135))))))))))))) (fun y4_139 w141 => ∀ _g142 : Tm, rdI .i64 y4_139 fun n143 => K (.int .i64 n143) w141) (.pointer p1) (.pointer (some (Addr.mk b3 0 none))) (.bool true) w5) (ldC ((Addr.mk b3 0 none).add 13) w5 fun _ l144n _ => F11_3 (fun y0_144 y3_144 w146 => ∀ _g147 : Tm, rdP y0_144 fun p148 => rdA y3_144 fun a149 => ldC (a149.add 13) w146 fun l150a l150n l150c => Calls Try.prog 27 #[(.slice l150a l150n l150c)] w146 fun e152 w151 => ∃ l153a l153n l153c, e152 = .returned (.slice l153a l153n l153c) ∧ (stc (a149.add 13) (.slice l153a l153n l153c) w151 fun w154 => drw w154 fun w155 => nn p148 fun a156 => ldM ((a156.add 0).add 0) w155 fun m157 => ldI .u32 (a149.add 2) w155 fun n158 => ldR35 a149 w155 fun s159 => ∃ w160, Sem.run Try.prog (Instr.mapUpdate 64 (.map m157) (.int .u32 n158) s159.v) w155 = .ok () w160 ∧ (drw w160 fun w161 => nn p148 fun a162 => ldI .i64 ((a162.add 0).add 2) w161 fun n163 => ldC (a149.add 13) w161 fun _ l164n _ => nn p148 fun a165 => stc ((a165.add 0).add 2) (.int .i64 (IntKind.wrap .i64 (n163 + (l164n : Int)))) w161 fun w166 => drw w166 fun w167 => nn p148 fun a168 => ldI .u32 (a149.add 2) w167 fun n169 => Calls Try.prog 29 #[(.pointer (some (a168.add 0))), (.int .u32 n169)] w167 fun e171 w170 => ∃ v172, e171 = .returned v172 ∧ (Calls Try.prog 28 #[v172] w170 fun e174 w173 => ∃ l175a l175n l175c, e174 = .returned (.slice l175a l175n l175c) ∧ (drw w173 fun w176 => ∃ w177 : World, Pres w177 w176 ∧ (nn p148 fun a178 => ldM ((a178.add 0).add 0) w177 fun m179 => ixS 1 l175a l175n 0 fun a180 => ldI .u32 a180 w177 fun n181 => exR35 fun s182 => lookF Try.prog 30 36 (.map m179) (.int .u32 n181) false w177 = some s182.v ∧ (nn p148 fun a183 => ldM ((a183.add 0).add 0) w177 fun m184 => ixS 1 l175a l175n (IntKind.wrap .i64 ((l175n : Int) - 1)) fun a185 => ldI .u32 a185 w177 fun n186 => exR35 fun s187 => lookF Try.prog 30 36 (.map m184) (.int .u32 n186) false w177 = some s187.v ∧ (((alc (.cells ((R35.mk 0 0 0 0 0 0 0 0 0 0 none 0 0 none 0 0 none 0 0 none 0 0 none 0 0)).c 36) w176 fun b188 w189 => Pres w177 w189 ∧ (alc (.cells ((R35.mk 0 0 0 0 0 0 0 0 0 0 none 0 0 none 0 0 none 0 0 none 0 0 none 0 0)).c 36) w189 fun b190 w191 => Pres w177 w191 ∧ (stcL (Addr.mk b188 0 none) 0 s182.l w191 fun w192 => Pres w177 w192 ∧ (stcL (Addr.mk b190 0 none) 0 s187.l w192 fun w193 => F11_2 (fun y4_193 w195 => ∀ _g196 : Tm, rdI .i64 y4_193 fun n197 => K (.int .i64 n197) w195) (.pointer p148) (.pointer (some a149)) (.slice l175a l175n l175c) (.pointer (some (Addr.mk b188 0 none))) (.pointer (some (Addr.mk b190 0 none))) w193)))) ∧ (alc (.cells ((R35.mk 0 0 0 0 0 0 0 0 0 0 none 0 0 none 0 0 none 0 0 none 0 0 none 0 0)).c 36) w176 fun b198 w199 => Pres w177 w199 ∧ (alc (.cells ((R35.mk 0 0 0 0 0 0 0 0 0 0 none 0 0 none 0 0 none 0 0 none 0 0 none 0 0)).c 36) w199 fun b200 w201 => Pres w177 w201 ∧ (stcL (Addr.mk b200 0 none) 0 s182.l w201 fun w202 => Pres w177 w202 ∧ (stcL (Addr.mk b198 0 none) 0 s187.l w202 fun w203 => F11_2 (fun y4_203 w205 => ∀ _g206 : Tm, rdI .i64 y4_203 fun n207 => K (.int .i64 n207) w205) (.pointer p148) (.pointer (some a149)) (.slice l175a l175n l175c) (.pointer (some (Addr.mk b200 0 none))) (.pointer (some (Addr.mk b198 0 none))) w203))))))))))))) (fun y4_207 w209 => ∀ _g210 : Tm, rdI .i64 y4_207 fun n211 => K (.int .i64 n211) w209) (.pointer p1) (.pointer (some (Addr.mk b3 0 none))) (.bool (decide (((l144n : Int) : Int) > 65531))) w5)))))
theorem F11_step (x0 : Value) (x1 : Value) (w : World) (K : Value → World → Prop) : (F11 x0 x1 w K) = rsh [(0, (.one .ptr)), (1, (.agg [(.int .u8), (.int .u8), (.int .u32), (.int .u16), (.int .u16), (.int .u32), (.int .u32), (.int .u32), (.int .u16), (.int .u16), .slc, .slc, .slc, .slc, .slc]))] (args0 #[x0, x1]) (fun t => vc Try.prog (orcOf [([1, 0, 1, 1, 1, 1, 1, 1, 1], F11_1O), ([1, 1, 1, 1, 1, 1, 1], F11_2O), ([1, 1, 1, 0, 0, 1], F11_3O)]) [] F11_code (retQ Try.prog Try.f11 K) t w) := by kernel_rfl
theorem F11_ok {x0 x1 : Value} {w : World} {K : Value → World → Prop} (h : F11 x0 x1 w K) : Calls Try.prog 11 #[x0, x1] w fun e w' => ∃ v, e = .returned v ∧ K v w' := by
  rw [F11_step] at h
  exact calls_of (c := F11_code) mixed Try.func11 rfl (nlt rfl) (vc_sound mixed (orcCons (π := [1, 0, 1, 1, 1, 1, 1, 1, 1]) F11_1_ok (orcCons (π := [1, 1, 1, 1, 1, 1, 1]) F11_2_ok (orcCons (π := [1, 1, 1, 0, 0, 1]) F11_3_ok (orcNil F11_code)))) F11_code [] rfl F11_code_ok _ _ _ (rsh_out h))

/-! ropewalk/ropewalklaw20.data -/
noncomputable def F12_code : Code := Try.f12.body.getD .skip
theorem F12_code_ok : okC Try.prog Try.f12.ntmps F12_code = true := by kernel_rfl
def F12 (x0 : Value) (x1 : Value) (x2 : Value) (x3 : Value) (x4 : Value) (w : World) (K : Value → World → Prop) : Prop :=
  rdI .u32 x0 fun n1 => rdI .u8 x1 fun n2 => rdI .u16 x2 fun n3 => rdI .u16 x3 fun n4 => rdC x4 fun l5a l5n l5c => alc (.cells ((R35.mk 0 0 0 0 0 0 0 0 0 0 none 0 0 none 0 0 none 0 0 none 0 0 none 0 0)).c 36) w fun b6 w7 => stcL (Addr.mk b6 0 none) 0 (R35.mk 0 n2 n1 n3 n4 0 0 0 0 0 none 0 0 none 0 0 none 0 0 l5a l5n l5c none 0 0).l w7 fun w8 => ldR35 (Addr.mk b6 0 none) w8 fun s9 => K s9.v w8
theorem F12_step (x0 : Value) (x1 : Value) (x2 : Value) (x3 : Value) (x4 : Value) (w : World) (K : Value → World → Prop) : (F12 x0 x1 x2 x3 x4 w K) = rsh [(0, (.one (.int .u32))), (1, (.one (.int .u8))), (2, (.one (.int .u16))), (3, (.one (.int .u16))), (4, (.one .slc))] (args0 #[x0, x1, x2, x3, x4]) (fun t => vc Try.prog (orcOf []) [] F12_code (retQ Try.prog Try.f12 K) t w) := by kernel_rfl
theorem F12_ok {x0 x1 x2 x3 x4 : Value} {w : World} {K : Value → World → Prop} (h : F12 x0 x1 x2 x3 x4 w K) : Calls Try.prog 12 #[x0, x1, x2, x3, x4] w fun e w' => ∃ v, e = .returned v ∧ K v w' := by
  rw [F12_step] at h
  exact calls_of (c := F12_code) mixed Try.func12 rfl (nlt rfl) (vc_sound mixed (orcNil F12_code) F12_code [] rfl F12_code_ok _ _ _ (rsh_out h))

/-! (*ropewalk/reasm.Table).Take -/
noncomputable def F13_code : Code := Try.f13.body.getD .skip
theorem F13_code_ok : okC Try.prog Try.f13.ntmps F13_code = true := by kernel_rfl
def F13_1C (Kr : Value → Value → World → Prop) : Post := fun o t w => match o with | .normal => False | .exit _ => (False) | .ret => Kr (t 2) (t 3) w
def F13_1 (Kr : Value → Value → World → Prop) (x0 : Value) (x2 : Value) (w : World) : Prop :=
  rdP x0 fun p1 => rdA x2 fun a2 => nn p1 fun a3 => ldC (a3.add 6) w fun l4a l4n _ => ixS 5 l4a l4n 0 fun a5 => ldR38 a5 w fun s6 => alc (.cells ((R38.mk 0 0 0 false none 0 0)).c 39) w fun b7 w8 => stcL (Addr.mk b7 0 none) 0 s6.l w8 fun w9 => nn p1 fun a10 => ldC (a10.add 6) w9 fun l11a l11n l11c => slS 5 l11a l11n l11c (some (.int .i64 1)) none fun l12a l12n l12c => nn p1 fun a13 => stc (a13.add 6) (.slice l12a l12n l12c) w9 fun w14 => drw w14 fun w15 => nn p1 fun a16 => ldI .i64 ((a16.add 0).add 2) w15 fun n17 => ldC ((Addr.mk b7 0 none).add 4) w15 fun _ l18n _ => nn p1 fun a19 => stc ((a19.add 0).add 2) (.int .i64 (IntKind.wrap .i64 (n17 - (l18n : Int)))) w15 fun w20 => ldR38 (Addr.mk b7 0 none) w20 fun s21 => stcL a2 0 s21.l w20 fun w22 => Kr (.pointer (some a2)) (.bool true) w22
def F13_1O (Q : Post) (t : Tm) (w : World) : Prop := F13_1 (fun y2 y3 w => ∀ g, rsh [(2, (.one .adr)), (3, (.one .bool))] (upds g [(2, y2), (3, y3)]) fun t => Q .ret t w) (t 0) (t 2) w
theorem F13_1_step (Kr : Value → Value → World → Prop) (t : Tm) (w : World) : (F13_1 Kr (t 0) (t 2) w) = rsh [(0, (.one .ptr)), (2, (.one .adr))] t (fun t => vc Try.prog (orcOf []) [1, 1] (getAt F13_code [1, 1]) (F13_1C Kr) t w) := by kernel_rfl
theorem F13_1_ok : ∀ Q t w, F13_1O Q t w → W Try.prog Try.f13.ntmps (getAt F13_code [1, 1]) Q t w := by
  intro Q t w h
  unfold F13_1O at h
  rw [F13_1_step] at h
  refine (vc_sound mixed (orcNil F13_code) _ _ rfl (okC_at F13_code_ok [1, 1]) _ _ _ (rsh_out h)).mono ?_
  intro o t w q
  cases o with
  | normal => exact q.elim
  | exit i => exact q.elim
  | ret => exact out_ok [2, 3] q
def F13 (x0 : Value) (w : World) (K : Value → World → Prop) : Prop :=
  rdP x0 fun p1 => alc (.cells ((R38.mk 0 0 0 false none 0 0)).c 39) w fun b2 w3 => Calls Try.prog 24 #[(.pointer p1)] w3 fun e5 w4 => ∃ b6, e5 = .returned (.bool b6) ∧ (br (!b6) (stcL (Addr.mk b2 0 none) 0 (R38.mk 0 0 0 false none 0 0).l w4 fun w7 => ldR38 (Addr.mk b2 0 none) w7 fun s8 => K (.tuple #[s8.v, (.bool false)]) w7) (nn p1 fun a9 => ldC (a9.add 6) w4 fun _ l10n _ => br ((l10n : Int) == 0) (stcL (Addr.mk b2 0 none) 0 (R38.mk 0 0 0 false none 0 0).l w4 fun w11 => ldR38 (Addr.mk b2 0 none) w11 fun s12 => K (.tuple #[s12.v, (.bool false)]) w11) (F13_1 (fun y2_12 y3_12 w14 => ∀ _g15 : Tm, rdA y2_12 fun a16 => rdB y3_12 fun b17 => ldR38 a16 w14 fun s18 => K (.tuple #[s18.v, (.bool b17)]) w14) (.pointer p1) (.pointer (some (Addr.mk b2 0 none))) w4)))
theorem F13_step (x0 : Value) (w : World) (K : Value → World → Prop) : (F13 x0 w K) = rsh [(0, (.one .ptr))] (args0 #[x0]) (fun t => vc Try.prog (orcOf [([1, 1], F13_1O)]) [] F13_code (retQ Try.prog Try.f13 K) t w) := by kernel_rfl
theorem F13_ok {x0 : Value} {w : World} {K : Value → World → Prop} (h : F13 x0 w K) : Calls Try.prog 13 #[x0] w fun e w' => ∃ v, e = .returned v ∧ K v w' := by
  rw [F13_step] at h
  exact calls_of (c := F13_code) mixed Try.func13 rfl (nlt rfl) (vc_sound mixed (orcCons (π := [1, 1]) F13_1_ok (orcNil F13_code)) F13_code [] rfl F13_code_ok _ _ _ (rsh_out h))

/-! (*ropewalk/reasm.Table).Fixed -/
noncomputable def F14_code : Code := Try.f14.body.getD .skip
theorem F14_code_ok : okC Try.prog Try.f14.ntmps F14_code = true := by kernel_rfl
def F14_1C (K0 : Value → Value → World → Prop) : Post := fun o t w => match o with | .normal => False | .exit i => (match Nat.beq i 0 with | true => K0 (t 3) (t 5) w | false => False) | .ret => False
def F14_1B (R : Value → Value → Value → World → Prop) (K0 : Value → Value → World → Prop) (x3 : Value) (x5 : Value) (x16 : Value) (w : World) : Prop :=
  rdA x3 fun a1 => rdC x5 fun l2a l2n l2c => ((∃ w3, Sem.run Try.prog (Instr.next x16 false 0) w = .ok (.tuple #[.bool false]) w3 ∧ (K0 (.pointer (some a1)) (.slice l2a l2n l2c) w3)) ∨ (∃ k4 v5 w6, Sem.run Try.prog (Instr.next x16 false 0) w = .ok (.tuple #[.bool true, k4, v5]) w6 ∧ (∃ n7, ∃ v8, ∃ w9, Sem.run Try.prog (Instr.entry x16) w6 = .ok (.tuple #[(.int .u32 n7), v8]) w9 ∧ (ldI .u32 a1 w9 fun n10 => Calls Try.prog 33 #[(.int .u32 n10), (.int .u32 n7)] w9 fun e12 w11 => ∃ n13, e12 = .returned (.int .i64 n13) ∧ (br (decide ((n13 : Int) ≥ 1)) (br (decide ((n13 : Int) ≤ 65535)) (alc (.cells #[(.int .u32 n7)] 30) w11 fun b14 w15 => ∃ l16a l16n l16c w17, Sem.run Try.prog (Builtin.append_ #[33, 33] 33 #[(.slice l2a l2n l2c), (.slice (some (Addr.mk b14 0 none)) 1 1)]) w15 = .ok (.slice l16a l16n l16c) w17 ∧ (R (.pointer (some a1)) (.slice l16a l16n l16c) x16 w17)) (R (.pointer (some a1)) (.slice l2a l2n l2c) x16 w11)) (R (.pointer (some a1)) (.slice l2a l2n l2c) x16 w11))))))
def F14_1 (K0 : Value → Value → World → Prop) : Nat → Value → Value → Value → World → Prop
  | 0 => fun _ _ _ _ => False
  | n + 1 => F14_1B (F14_1 K0 n) K0
def F14_1O (Q : Post) (t : Tm) (w : World) : Prop := ∃ n, F14_1 (fun y3 y5 w => ∀ g, rsh [(3, (.one .adr)), (5, (.one .slc))] (upds g [(3, y3), (5, y5)]) fun t => Q (.exit 0) t w) n (t 3) (t 5) (t 16) w
theorem F14_1_step (K0 : Value → Value → World → Prop) (n : Nat) (t : Tm) (w : World) : (F14_1 K0 (n + 1) (t 3) (t 5) (t 16) w) = rsh [(3, (.one .adr)), (5, (.one .slc))] t (fun t => vc Try.prog (orcOf []) [0, 0, 1, 0, 1, 1, 1] (getAt F14_code [0, 0, 1, 0, 1, 1, 1]) (fun o t w => match o with | .normal => F14_1 K0 n (t 3) (t 5) (t 16) w | .exit i => F14_1C K0 (.exit i) t w | .ret => F14_1C K0 .ret t w) t w) := by kernel_rfl
theorem F14_1_ok : ∀ Q t w, F14_1O Q t w → W Try.prog Try.f14.ntmps (getAt F14_code [0, 1, 0, 1, 1, 1]) Q t w := by
  intro Q t w ⟨n, h⟩
  refine (W_loop (P := Try.prog) (b := getAt F14_code [0, 0, 1, 0, 1, 1, 1]) (Q := F14_1C (fun y3 y5 w => ∀ g, rsh [(3, (.one .adr)), (5, (.one .slc))] (upds g [(3, y3), (5, y5)]) fun t => Q (.exit 0) t w)) (G := fun n t w => F14_1 (fun y3 y5 w => ∀ g, rsh [(3, (.one .adr)), (5, (.one .slc))] (upds g [(3, y3), (5, y5)]) fun t => Q (.exit 0) t w) n (t 3) (t 5) (t 16) w) (fun _ _ h => h) (fun n t w h => ?_) n t w h).mono ?_
  · rw [F14_1_step] at h
    exact vc_sound mixed (orcNil F14_code) _ _ rfl (okC_at F14_code_ok [0, 0, 1, 0, 1, 1, 1]) _ _ _ (rsh_out h)
  · intro o t w q
    cases o with
    | normal => exact q.elim
    | exit i =>
      unfold F14_1C at q
      simp only at q
      split at q
      · rename_i hi
        rw [nbeq] at hi
        subst hi
        exact out_ok [3, 5] q
      · exact q.elim
    | ret => exact q.elim
def F14 (x0 : Value) (x1 : Value) (w : World) (K : Value → World → Prop) : Prop :=
  rdP x0 fun p1 => rdI .u32 x1 fun n2 => alc (.cells #[(.int .u32 n2)] 30) w fun b3 w4 => Calls Try.prog 24 #[(.pointer p1)] w4 fun e6 w5 => ∃ b7, e6 = .returned (.bool b7) ∧ (br (!b7) (K (.slice none 0 0) w5) (nn p1 fun a8 => ldM ((a8.add 0).add 1) w5 fun m9 => ∃ p10, ∃ w11, Sem.run Try.prog (Instr.range 65 (.map m9)) w5 = .ok (.pointer p10) w11 ∧ (∃ k19 : Nat, F14_1 (fun y3_11 y5_11 w13 => ∀ _g14 : Tm, rdA y3_11 fun a15 => rdC y5_11 fun l16a l16n l16c => Calls Try.prog 34 #[(.slice l16a l16n l16c), (.func (.func 35) #[] #[(.pointer (some a15))])] w13 fun e18 w17 => e18 = .returned (.tuple #[]) ∧ (K (.slice l16a l16n l16c) w17)) k19 (.pointer (some (Addr.mk b3 0 none))) (.slice none 0 0) (.pointer p10) w11)))
theorem F14_step (x0 : Value) (x1 : Value) (w : World) (K : Value → World → Prop) : (F14 x0 x1 w K) = rsh [(0, (.one .ptr)), (1, (.one (.int .u32)))] (args0 #[x0, x1]) (fun t => vc Try.prog (orcOf [([0, 1, 0, 1, 1, 1], F14_1O)]) [] F14_code (retQ Try.prog Try.f14 K) t w) := by kernel_rfl
theorem F14_ok {x0 x1 : Value} {w : World} {K : Value → World → Prop} (h : F14 x0 x1 w K) : Calls Try.prog 14 #[x0, x1] w fun e w' => ∃ v, e = .returned v ∧ K v w' := by
  rw [F14_step] at h
  exact calls_of (c := F14_code) mixed Try.func14 rfl (nlt rfl) (vc_sound mixed (orcCons (π := [0, 1, 0, 1, 1, 1]) F14_1_ok (orcNil F14_code)) F14_code [] rfl F14_code_ok _ _ _ (rsh_out h))

/-! ropewalk/ropewalklaw20.numbers -/
noncomputable def F15_code : Code := Try.f15.body.getD .skip
theorem F15_code_ok : okC Try.prog Try.f15.ntmps F15_code = true := by kernel_rfl
def F15_1C (K0 : World → Prop) (Kr : Value → World → Prop) : Post := fun o t w => match o with | .normal => False | .exit i => (match Nat.beq i 0 with | true => K0  w | false => False) | .ret => Kr (t 4) w
def F15_1B (R : Value → Value → Value → World → Prop) (K0 : World → Prop) (Kr : Value → World → Prop) (x0 : Value) (x1 : Value) (x5 : Value) (w : World) : Prop :=
  rdC x0 fun l1a l1n l1c => rdC x1 fun l2a l2n l2c => rdI .i64 x5 fun n3 => br (decide ((n3 : Int) < (l1n : Int))) (drw w fun w4 => ixS 1 l1a l1n n3 fun a5 => ldI .u32 a5 w4 fun n6 => ixS 1 l2a l2n n3 fun a7 => ldI .u32 a7 w4 fun n8 => br (n6 != n8) (Kr (.bool false) w4) (R (.slice l1a l1n l1c) (.slice l2a l2n l2c) (.int .i64 (IntKind.wrap .i64 (n3 + 1))) w4)) (K0 w)
def F15_1 (K0 : World → Prop) (Kr : Value → World → Prop) : Nat → Value → Value → Value → World → Prop
  | 0 => fun _ _ _ _ => False
  | n + 1 => F15_1B (F15_1 K0 Kr n) K0 Kr
def F15_1O (Q : Post) (t : Tm) (w : World) : Prop := ∃ n, F15_1 (fun w => ∀ g, rsh [] (upds g []) fun t => Q (.exit 0) t w) (fun y4 w => ∀ g, rsh [(4, (.one .bool))] (upds g [(4, y4)]) fun t => Q .ret t w) n (t 0) (t 1) (t 5) w
theorem F15_1_step (K0 : World → Prop) (Kr : Value → World → Prop) (n : Nat) (t : Tm) (w : World) : (F15_1 K0 Kr (n + 1) (t 0) (t 1) (t 5) w) = rsh [(0, (.one .slc)), (1, (.one .slc)), (5, (.one (.int .i64)))] t (fun t => vc Try.prog (orcOf []) [0, 0, 1, 0, 1, 1] (getAt F15_code [0, 0, 1, 0, 1, 1]) (fun o t w => match o with | .normal => F15_1 K0 Kr n (t 0) (t 1) (t 5) w | .exit i => F15_1C K0 Kr (.exit i) t w | .ret => F15_1C K0 Kr .ret t w) t w) := by kernel_rfl
theorem F15_1_ok : ∀ Q t w, F15_1O Q t w → W Try.prog Try.f15.ntmps (getAt F15_code [0, 1, 0, 1, 1]) Q t w := by
  intro Q t w ⟨n, h⟩
  refine (W_loop (P := Try.prog) (b := getAt F15_code [0, 0, 1, 0, 1, 1]) (Q := F15_1C (fun w => ∀ g, rsh [] (upds g []) fun t => Q (.exit 0) t w) (fun y4 w => ∀ g, rsh [(4, (.one .bool))] (upds g [(4, y4)]) fun t => Q .ret t w)) (G := fun n t w => F15_1 (fun w => ∀ g, rsh [] (upds g []) fun t => Q (.exit 0) t w) (fun y4 w => ∀ g, rsh [(4, (.one .bool))] (upds g [(4, y4)]) fun t => Q .ret t w) n (t 0) (t 1) (t 5) w) (fun _ _ h => h) (fun n t w h => ?_) n t w h).mono ?_
  · rw [F15_1_step] at h
    exact vc_sound mixed (orcNil F15_code) _ _ rfl (okC_at F15_code_ok [0, 0, 1, 0, 1, 1]) _ _ _ (rsh_out h)
  · intro o t w q
    cases o with
    | normal => exact q.elim
    | exit i =>
      unfold F15_1C at q
      simp only at q
      split at q
      · rename_i hi
        rw [nbeq] at hi
        subst hi
        exact out_ok [] q
      · exact q.elim
    | ret => exact out_ok [4] q
def F15 (x0 : Value) (x1 : Value) (w : World) (K : Value → World → Prop) : Prop :=
  rdC x0 fun l1a l1n l1c => rdC x1 fun l2a l2n l2c => br ((l1n : Int) != (l2n : Int)) (K (.bool false) w) (∃ k10 : Nat, F15_1 (fun w4 => ∀ _g5 : Tm, K (.bool true) w4) (fun y4_5 w7 => ∀ _g8 : Tm, rdB y4_5 fun b9 => K (.bool b9) w7) k10 (.slice l1a l1n l1c) (.slice l2a l2n l2c) (.int .i64 0) w)
theorem F15_step (x0 : Value) (x1 : Value) (w : World) (K : Value → World → Prop) : (F15 x0 x1 w K) = rsh [(0, (.one .slc)), (1, (.one .slc))] (args0 #[x0, x1]) (fun t => vc Try.prog (orcOf [([0, 1, 0, 1, 1], F15_1O)]) [] F15_code (retQ Try.prog Try.f15 K) t w) := by kernel_rfl
theorem F15_ok {x0 x1 : Value} {w : World} {K : Value → World → Prop} (h : F15 x0 x1 w K) : Calls Try.prog 15 #[x0, x1] w fun e w' => ∃ v, e = .returned v ∧ K v w' := by
  rw [F15_step] at h
  exact calls_of (c := F15_code) mixed Try.func15 rfl (nlt rfl) (vc_sound mixed (orcCons (π := [0, 1, 0, 1, 1]) F15_1_ok (orcNil F15_code)) F15_code [] rfl F15_code_ok _ _ _ (rsh_out h))

/-! (*ropewalk/reasm.Table).Ready -/
noncomputable def F16_code : Code := Try.f16.body.getD .skip
theorem F16_code_ok : okC Try.prog Try.f16.ntmps F16_code = true := by kernel_rfl
def F16 (x0 : Value) (w : World) (K : Value → World → Prop) : Prop :=
  rdP x0 fun p1 => Calls Try.prog 24 #[(.pointer p1)] w fun e3 w2 => ∃ b4, e3 = .returned (.bool b4) ∧ (br (!b4) (K (.int .i64 0) w2) (nn p1 fun a5 => ldC (a5.add 6) w2 fun _ l6n _ => K (.int .i64 (l6n : Int)) w2))
theorem F16_step (x0 : Value) (w : World) (K : Value → World → Prop) : (F16 x0 w K) = rsh [(0, (.one .ptr))] (args0 #[x0]) (fun t => vc Try.prog (orcOf []) [] F16_code (retQ Try.prog Try.f16 K) t w) := by kernel_rfl
theorem F16_ok {x0 : Value} {w : World} {K : Value → World → Prop} (h : F16 x0 w K) : Calls Try.prog 16 #[x0] w fun e w' => ∃ v, e = .returned v ∧ K v w' := by
  rw [F16_step] at h
  exact calls_of (c := F16_code) mixed Try.func16 rfl (nlt rfl) (vc_sound mixed (orcNil F16_code) F16_code [] rfl F16_code_ok _ _ _ (rsh_out h))

/-! ropewalk/ropewalklaw20.cut -/
noncomputable def F17_code : Code := Try.f17.body.getD .skip
theorem F17_code_ok : okC Try.prog Try.f17.ntmps F17_code = true := by kernel_rfl
def F17_1C (Kn : Value → Value → Value → Value → Value → Value → Value → Value → World → Prop) : Post := fun o t w => match o with | .normal => Kn (t 0) (t 1) (t 2) (t 7) (t 8) (t 9) (t 10) (t 11) w | .exit _ => (False) | .ret => False
def F17_1 (Kn : Value → Value → Value → Value → Value → Value → Value → Value → World → Prop) (x0 : Value) (x1 : Value) (x2 : Value) (x7 : Value) (x8 : Value) (x9 : Value) (x10 : Value) (x11 : Value) (x12 : Value) (w : World) : Prop :=
  rdC x0 fun l1a l1n l1c => rdI .u32 x1 fun n2 => rdI .i64 x2 fun n3 => rdC x7 fun l4a l4n l4c => rdC x8 fun l5a l5n l5c => rdI .i64 x9 fun n6 => rdA x10 fun a7 => rdI .i64 x11 fun n8 => rdA x12 fun a9 => ldR35 a9 w fun s10 => alc (.cells s10.c 36) w fun b11 w12 => ∃ l13a l13n l13c w14, Sem.run Try.prog (Builtin.append_ #[45, 45] 45 #[(.slice l4a l4n l4c), (.slice (some (Addr.mk b11 0 none)) 1 1)]) w12 = .ok (.slice l13a l13n l13c) w14 ∧ (Kn (.slice l1a l1n l1c) (.int .u32 (IntKind.wrap .u32 (n2 + 1))) (.int .i64 n3) (.slice l13a l13n l13c) (.slice l5a l5n l5c) (.int .i64 n6) (.pointer (some a7)) (.int .i64 n8) w14)
def F17_1O (Q : Post) (t : Tm) (w : World) : Prop := F17_1 (fun y0 y1 y2 y7 y8 y9 y10 y11 w => ∀ g, rsh [(0, (.one .slc)), (1, (.one (.int .u32))), (2, (.one (.int .i64))), (7, (.one .slc)), (8, (.one .slc)), (9, (.one (.int .i64))), (10, (.one .adr)), (11, (.one (.int .i64)))] (upds g [(0, y0), (1, y1), (2, y2), (7, y7), (8, y8), (9, y9), (10, y10), (11, y11)]) fun t => Q .normal t w) (t 0) (t 1) (t 2) (t 7) (t 8) (t 9) (t 10) (t 11) (t 12) w
theorem F17_1_step (Kn : Value → Value → Value → Value → Value → Value → Value → Value → World → Prop) (t : Tm) (w : World) : (F17_1 Kn (t 0) (t 1) (t 2) (t 7) (t 8) (t 9) (t 10) (t 11) (t 12) w) = rsh [(0, (.one .slc)), (1, (.one (.int .u32))), (2, (.one (.int .i64))), (7, (.one .slc)), (8, (.one .slc)), (9, (.one (.int .i64))), (10, (.one .adr)), (11, (.one (.int .i64))), (12, (.one .adr))] t (fun t => vc Try.prog (orcOf []) [1, 1, 1, 1, 1, 0, 0, 1, 0, 0, 1, 1, 1, 1, 1, 0, 0, 1, 0, 0, 1, 0, 1, 1, 1] (getAt F17_code [1, 1, 1, 1, 1, 0, 0, 1, 0, 0, 1, 1, 1, 1, 1, 0, 0, 1, 0, 0, 1, 0, 1, 1, 1]) (F17_1C Kn) t w) := by kernel_rfl
theorem F17_1_ok : ∀ Q t w, F17_1O Q t w → W Try.prog Try.f17.ntmps (getAt F17_code [1, 1, 1, 1, 1, 0, 0, 1, 0, 0, 1, 1, 1, 1, 1, 0, 0, 1, 0, 0, 1, 0, 1, 1, 1]) Q t w := by
  intro Q t w h
  unfold F17_1O at h
  rw [F17_1_step] at h
  refine (vc_sound mixed (orcNil F17_code) _ _ rfl (okC_at F17_code_ok [1, 1, 1, 1, 1, 0, 0, 1, 0, 0, 1, 1, 1, 1, 1, 0, 0, 1, 0, 0, 1, 0, 1, 1, 1]) _ _ _ (rsh_out h)).mono ?_
  intro o t w q
  cases o with
  | normal => exact out_ok [0, 1, 2, 7, 8, 9, 10, 11] q
  | exit i => exact q.elim
  | ret => exact q.elim
def F17_2C (Kn : Value → Value → Value → Value → Value → Value → Value → Value → World → Prop) : Post := fun o t w => match o with | .normal => Kn (t 0) (t 1) (t 2) (t 7) (t 8) (t 9) (t 10) (t 11) w | .exit _ => (False) | .ret => False
def F17_2 (Kn : Value → Value → Value → Value → Value → Value → Value → Value → World → Prop) (x0 : Value) (x1 : Value) (x2 : Value) (x7 : Value) (x8 : Value) (x9 : Value) (x10 : Value) (x11 : Value) (x12 : Value) (w : World) : Prop :=
  rdC x0 fun l1a l1n l1c => rdI .u32 x1 fun n2 => rdI .i64 x2 fun n3 => rdC x7 fun l4a l4n l4c => rdC x8 fun l5a l5n l5c => rdI .i64 x9 fun n6 => rdA x10 fun a7 => rdI .i64 x11 fun n8 => rdA x12 fun a9 => ldC (a7.add 4) w fun _ l10n _ => br (decide (((IntKind.wrap .i64 (n8 + n3)) : Int) ≥ (l10n : Int))) (ldI .u8 (a9.add 1) w fun n11 => stc (a9.add 1) (.int .u8 (bitI .or .u8 n11 1)) w fun w12 => F17_1 (fun y0_12 y1_12 y2_12 y7_12 y8_12 y9_12 y10_12 y11_12 w14 => ∀ _g15 : Tm, rdC y0_12 fun l16a l16n l16c => rdI .u32 y1_12 fun n17 => rdI .i64 y2_12 fun n18 => rdC y7_12 fun l19a l19n l19c => rdC y8_12 fun l20a l20n l20c => rdI .i64 y9_12 fun n21 => rdA y10_12 fun a22 => rdI .i64 y11_12 fun n23 => Kn (.slice l16a l16n l16c) (.int .u32 n17) (.int .i64 n18) (.slice l19a l19n l19c) (.slice l20a l20n l20c) (.int .i64 n21) (.pointer (some a22)) (.int .i64 n23) w14) (.slice l1a l1n l1c) (.int .u32 n2) (.int .i64 n3) (.slice l4a l4n l4c) (.slice l5a l5n l5c) (.int .i64 n6) (.pointer (some a7)) (.int .i64 n8) (.pointer (some a9)) w12) (F17_1 (fun y0_23 y1_23 y2_23 y7_23 y8_23 y9_23 y10_23 y11_23 w25 => ∀ _g26 : Tm, rdC y0_23 fun l27a l27n l27c => rdI .u32 y1_23 fun n28 => rdI .i64 y2_23 fun n29 => rdC y7_23 fun l30a l30n l30c => rdC y8_23 fun l31a l31n l31c => rdI .i64 y9_23 fun n32 => rdA y10_23 fun a33 => rdI .i64 y11_23 fun n34 => Kn (.slice l27a l27n l27c) (.int .u32 n28) (.int .i64 n29) (.slice l30a l30n l30c) (.slice l31a l31n l31c) (.int .i64 n32) (.pointer (some a33)) (.int .i64 n34) w25) (.slice l1a l1n l1c) (.int .u32 n2) (.int .i64 n3) (.slice l4a l4n l4c) (.slice l5a l5n l5c) (.int .i64 n6) (.pointer (some a7)) (.int .i64 n8) (.pointer (some a9)) w)
def F17_2O (Q : Post) (t : Tm) (w : World) : Prop := F17_2 (fun y0 y1 y2 y7 y8 y9 y10 y11 w => ∀ g, rsh [(0, (.one .slc)), (1, (.one (.int .u32))), (2, (.one (.int .i64))), (7, (.one .slc)), (8, (.one .slc)), (9, (.one (.int .i64))), (10, (.one .adr)), (11, (.one (.int .i64)))] (upds g [(0, y0), (1, y1), (2, y2), (7, y7), (8, y8), (9, y9), (10, y10), (11, y11)]) fun t => Q .normal t w) (t 0) (t 1) (t 2) (t 7) (t 8) (t 9) (t 10) (t 11) (t 12) w
theorem F17_2_step (Kn : Value → Value → Value → Value → Value → Value → Value → Value → World → Prop) (t : Tm) (w : World) : (F17_2 Kn (t 0) (t 1) (t 2) (t 7) (t 8) (t 9) (t 10) (t 11) (t 12) w) = rsh [(0, (.one .slc)), (1, (.one (.int .u32))), (2, (.one (.int .i64))), (7, (.one .slc)), (8, (.one .slc)), (9, (.one (.int .i64))), (10, (.one .adr)), (11, (.one (.int .i64))), (12, (.one .adr))] t (fun t => vc Try.prog (orcOf [([1, 1, 1, 1, 1, 0, 0, 1, 0, 0, 1, 1, 1, 1, 1, 0, 0, 1, 0, 0, 1, 0, 1, 1, 1], F17_1O)]) [1, 1, 1, 1, 0, 0, 1, 0, 0, 1, 1, 1, 1, 1, 0, 0, 1, 0, 0, 1, 0, 1, 1, 1] (getAt F17_code [1, 1, 1, 1, 0, 0, 1, 0, 0, 1, 1, 1, 1, 1, 0, 0, 1, 0, 0, 1, 0, 1, 1, 1]) (F17_2C Kn) t w) := by kernel_rfl
theorem F17_2_ok : ∀ Q t w, F17_2O Q t w → W Try.prog Try.f17.ntmps (getAt F17_code [1, 1, 1, 1, 0, 0, 1, 0, 0, 1, 1, 1, 1, 1, 0, 0, 1, 0, 0, 1, 0, 1, 1, 1]) Q t w := by
  intro Q t w h
  unfold F17_2O at h
  rw [F17_2_step] at h
  refine (vc_sound mixed (orcCons (π := [1, 1, 1, 1, 1, 0, 0, 1, 0, 0, 1, 1, 1, 1, 1, 0, 0, 1, 0, 0, 1, 0, 1, 1, 1]) F17_1_ok (orcNil F17_code)) _ _ rfl (okC_at F17_code_ok [1, 1, 1, 1, 0, 0, 1, 0, 0, 1, 1, 1, 1, 1, 0, 0, 1, 0, 0, 1, 0, 1, 1, 1]) _ _ _ (rsh_out h)).mono ?_
  intro o t w q
  cases o with
  | normal => exact out_ok [0, 1, 2, 7, 8, 9, 10, 11] q
  | exit i => exact q.elim
  | ret => exact q.elim
def F17_3C (Kn : Value → Value → Value → Value → Value → Value → Value → Value → World → Prop) : Post := fun o t w => match o with | .normal => Kn (t 0) (t 1) (t 2) (t 7) (t 8) (t 9) (t 10) (t 11) w | .exit _ => (False) | .ret => False
def F17_3 (Kn : Value → Value → Value → Value → Value → Value → Value → Value → World → Prop) (x0 : Value) (x1 : Value) (x2 : Value) (x7 : Value) (x8 : Value) (x9 : Value) (x10 : Value) (x11 : Value) (x12 : Value) (w : World) : Prop :=
  rdC x0 fun l1a l1n l1c => rdI .u32 x1 fun n2 => rdI .i64 x2 fun n3 => rdC x7 fun l4a l4n l4c => rdC x8 fun l5a l5n l5c => rdI .i64 x9 fun n6 => rdA x10 fun a7 => rdI .i64 x11 fun n8 => rdA x12 fun a9 => br (n8 == 0) (ldI .u8 (a9.add 1) w fun n10 => stc (a9.add 1) (.int .u8 (bitI .or .u8 n10 2)) w fun w11 => F17_2 (fun y0_11 y1_11 y2_11 y7_11 y8_11 y9_11 y10_11 y11_11 w13 => ∀ _g14 : Tm, rdC y0_11 fun l15a l15n l15c => rdI .u32 y1_11 fun n16 => rdI .i64 y2_11 fun n17 => rdC y7_11 fun l18a l18n l18c => rdC y8_11 fun l19a l19n l19c => rdI .i64 y9_11 fun n20 => rdA y10_11 fun a21 => rdI .i64 y11_11 fun n22 => Kn (.slice l15a l15n l15c) (.int .u32 n16) (.int .i64 n17) (.slice l18a l18n l18c) (.slice l19a l19n l19c) (.int .i64 n20) (.pointer (some a21)) (.int .i64 n22) w13) (.slice l1a l1n l1c) (.int .u32 n2) (.int .i64 n3) (.slice l4a l4n l4c) (.slice l5a l5n l5c) (.int .i64 n6) (.pointer (some a7)) (.int .i64 n8) (.pointer (some a9)) w11) (F17_2 (fun y0_22 y1_22 y2_22 y7_22 y8_22 y9_22 y10_22 y11_22 w24 => ∀ _g25 : Tm, rdC y0_22 fun l26a l26n l26c => rdI .u32 y1_22 fun n27 => rdI .i64 y2_22 fun n28 => rdC y7_22 fun l29a l29n l29c => rdC y8_22 fun l30a l30n l30c => rdI .i64 y9_22 fun n31 => rdA y10_22 fun a32 => rdI .i64 y11_22 fun n33 => Kn (.slice l26a l26n l26c) (.int .u32 n27) (.int .i64 n28) (.slice l29a l29n l29c) (.slice l30a l30n l30c) (.int .i64 n31) (.pointer (some a32)) (.int .i64 n33) w24) (.slice l1a l1n l1c) (.int .u32 n2) (.int .i64 n3) (.slice l4a l4n l4c) (.slice l5a l5n l5c) (.int .i64 n6) (.pointer (some a7)) (.int .i64 n8) (.pointer (some a9)) w)
def F17_3O (Q : Post) (t : Tm) (w : World) : Prop := F17_3 (fun y0 y1 y2 y7 y8 y9 y10 y11 w => ∀ g, rsh [(0, (.one .slc)), (1, (.one (.int .u32))), (2, (.one (.int .i64))), (7, (.one .slc)), (8, (.one .slc)), (9, (.one (.int .i64))), (10, (.one .adr)), (11, (.one (.int .i64)))] (upds g [(0, y0), (1, y1), (2, y2), (7, y7), (8, y8), (9, y9), (10, y10), (11, y11)]) fun t => Q .normal t w) (t 0) (t 1) (t 2) (t 7) (t 8) (t 9) (t 10) (t 11) (t 12) w
theorem F17_3_step (Kn : Value → Value → Value → Value → Value → Value → Value → Value → World → Prop) (t : Tm) (w : World) : (F17_3 Kn (t 0) (t 1) (t 2) (t 7) (t 8) (t 9) (t 10) (t 11) (t 12) w) = rsh [(0, (.one .slc)), (1, (.one (.int .u32))), (2, (.one (.int .i64))), (7, (.one .slc)), (8, (.one .slc)), (9, (.one (.int .i64))), (10, (.one .adr)), (11, (.one (.int .i64))), (12, (.one .adr))] t (fun t => vc Try.prog (orcOf [([1, 1, 1, 1, 1, 0, 0, 1, 0, 0, 1, 1, 1, 1, 1, 0, 0, 1, 0, 0, 1, 0, 1, 1, 1], F17_1O), ([1, 1, 1, 1, 0, 0, 1, 0, 0, 1, 1, 1, 1, 1, 0, 0, 1, 0, 0, 1, 0, 1, 1, 1], F17_2O)]) [1, 1, 1, 0, 0, 1, 0, 0, 1, 1, 1, 1, 1, 0, 0, 1, 0, 0, 1, 0, 1, 1, 1] (getAt F17_code [1, 1, 1, 0, 0, 1, 0, 0, 1, 1, 1, 1, 1, 0, 0, 1, 0, 0, 1, 0, 1, 1, 1]) (F17_3C Kn) t w) := by kernel_rfl
theorem F17_3_ok : ∀ Q t w, F17_3O Q t w → W Try.prog Try.f17.ntmps (getAt F17_code [1, 1, 1, 0, 0, 1, 0, 0, 1, 1, 1, 1, 1, 0, 0, 1, 0, 0, 1, 0, 1, 1, 1]) Q t w := by
  intro Q t w h
  unfold F17_3O at h
  rw [F17_3_step] at h
  refine (vc_sound mixed (orcCons (π := [1, 1, 1, 1, 1, 0, 0, 1, 0, 0, 1, 1, 1, 1, 1, 0, 0, 1, 0, 0, 1, 0, 1, 1, 1]) F17_1_ok (orcCons (π := [1, 1, 1, 1, 0, 0, 1, 0, 0, 1, 1, 1, 1, 1, 0, 0, 1, 0, 0, 1, 0, 1, 1, 1]) F17_2_ok (orcNil F17_code))) _ _ rfl (okC_at F17_code_ok [1, 1, 1, 0, 0, 1, 0, 0, 1, 1, 1, 1, 1, 0, 0, 1, 0, 0, 1, 0, 1, 1, 1]) _ _ _ (rsh_out h)).mono ?_
  intro o t w q
  cases o with
  | normal => exact out_ok [0, 1, 2, 7, 8, 9, 10, 11] q
  | exit i => exact q.elim
  | ret => exact q.elim
def F17_4C (Kn : Value → Value → Value → Value → Value → Value → Value → Value → World → Prop) : Post := fun o t w => match o with | .normal => Kn (t 0) (t 1) (t 2) (t 7) (t 8) (t 9) (t 10) (t 11) w | .exit _ => (False) | .ret => False
def F17_4 (Kn : Value → Value → Value → Value → Value → Value → Value → Value → World → Prop) (x0 : Value) (x1 : Value) (x2 : Value) (x7 : Value) (x8 : Value) (x9 : Value) (x10 : Value) (x11 : Value) (x12 : Value) (w : World) : Prop :=
  rdC x0 fun l1a l1n l1c => rdI .u32 x1 fun n2 => rdI .i64 x2 fun n3 => rdC x7 fun l4a l4n l4c => rdC x8 fun l5a l5n l5c => rdI .i64 x9 fun n6 => rdA x10 fun a7 => rdI .i64 x11 fun n8 => rdA x12 fun a9 => ldI .u32 (a7.add 2) w fun n10 => stc (a9.add 5) (.int .u32 n10) w fun w11 => ldB (a7.add 3) w11 fun b12 => br b12 (stc (a9.add 1) (.int .u8 4) w11 fun w13 => F17_3 (fun y0_13 y1_13 y2_13 y7_13 y8_13 y9_13 y10_13 y11_13 w15 => ∀ _g16 : Tm, rdC y0_13 fun l17a l17n l17c => rdI .u32 y1_13 fun n18 => rdI .i64 y2_13 fun n19 => rdC y7_13 fun l20a l20n l20c => rdC y8_13 fun l21a l21n l21c => rdI .i64 y9_13 fun n22 => rdA y10_13 fun a23 => rdI .i64 y11_13 fun n24 => Kn (.slice l17a l17n l17c) (.int .u32 n18) (.int .i64 n19) (.slice l20a l20n l20c) (.slice l21a l21n l21c) (.int .i64 n22) (.pointer (some a23)) (.int .i64 n24) w15) (.slice l1a l1n l1c) (.int .u32 n2) (.int .i64 n3) (.slice l4a l4n l4c) (.slice l5a l5n l5c) (.int .i64 n6) (.pointer (some a7)) (.int .i64 n8) (.pointer (some a9)) w13) (F17_3 (fun y0_24 y1_24 y2_24 y7_24 y8_24 y9_24 y10_24 y11_24 w26 => ∀ _g27 : Tm, rdC y0_24 fun l28a l28n l28c => rdI .u32 y1_24 fun n29 => rdI .i64 y2_24 fun n30 => rdC y7_24 fun l31a l31n l31c => rdC y8_24 fun l32a l32n l32c => rdI .i64 y9_24 fun n33 => rdA y10_24 fun a34 => rdI .i64 y11_24 fun n35 => Kn (.slice l28a l28n l28c) (.int .u32 n29) (.int .i64 n30) (.slice l31a l31n l31c) (.slice l32a l32n l32c) (.int .i64 n33) (.pointer (some a34)) (.int .i64 n35) w26) (.slice l1a l1n l1c) (.int .u32 n2) (.int .i64 n3) (.slice l4a l4n l4c) (.slice l5a l5n l5c) (.int .i64 n6) (.pointer (some a7)) (.int .i64 n8) (.pointer (some a9)) w11)
def F17_4O (Q : Post) (t : Tm) (w : World) : Prop := F17_4 (fun y0 y1 y2 y7 y8 y9 y10 y11 w => ∀ g, rsh [(0, (.one .slc)), (1, (.one (.int .u32))), (2, (.one (.int .i64))), (7, (.one .slc)), (8, (.one .slc)), (9, (.one (.int .i64))), (10, (.one .adr)), (11, (.one (.int .i64)))] (upds g [(0, y0), (1, y1), (2, y2), (7, y7), (8, y8), (9, y9), (10, y10), (11, y11)]) fun t => Q .normal t w) (t 0) (t 1) (t 2) (t 7) (t 8) (t 9) (t 10) (t 11) (t 12) w
theorem F17_4_step (Kn : Value → Value → Value → Value → Value → Value → Value → Value → World → Prop) (t : Tm) (w : World) : (F17_4 Kn (t 0) (t 1) (t 2) (t 7) (t 8) (t 9) (t 10) (t 11) (t 12) w) = rsh [(0, (.one .slc)), (1, (.one (.int .u32))), (2, (.one (.int .i64))), (7, (.one .slc)), (8, (.one .slc)), (9, (.one (.int .i64))), (10, (.one .adr)), (11, (.one (.int .i64))), (12, (.one .adr))] t (fun t => vc Try.prog (orcOf [([1, 1, 1, 1, 1, 0, 0, 1, 0, 0, 1, 1, 1, 1, 1, 0, 0, 1, 0, 0, 1, 0, 1, 1, 1], F17_1O), ([1, 1, 1, 1, 0, 0, 1, 0, 0, 1, 1, 1, 1, 1, 0, 0, 1, 0, 0, 1, 0, 1, 1, 1], F17_2O), ([1, 1, 1, 0, 0, 1, 0, 0, 1, 1, 1, 1, 1, 0, 0, 1, 0, 0, 1, 0, 1, 1, 1], F17_3O)]) [1, 0, 0, 1, 0, 0, 1, 1, 1, 1, 1, 0, 0, 1, 0, 0, 1, 0, 1, 1, 1] (getAt F17_code [1, 0, 0, 1, 0, 0, 1, 1, 1, 1, 1, 0, 0, 1, 0, 0, 1, 0, 1, 1, 1]) (F17_4C Kn) t w) := by kernel_rfl
theorem F17_4_ok : ∀ Q t w, F17_4O Q t w → W Try.prog Try.f17.ntmps (getAt F17_code [1, 0, 0, 1, 0, 0, 1, 1, 1, 1, 1, 0, 0, 1, 0, 0, 1, 0, 1, 1, 1]) Q t w := by
  intro Q t w h
  unfold F17_4O at h
  rw [F17_4_step] at h
  refine (vc_sound mixed (orcCons (π := [1, 1, 1, 1, 1, 0, 0, 1, 0, 0, 1, 1, 1, 1, 1, 0, 0, 1, 0, 0, 1, 0, 1, 1, 1]) F17_1_ok (orcCons (π := [1, 1, 1, 1, 0, 0, 1, 0, 0, 1, 1, 1, 1, 1, 0, 0, 1, 0, 0, 1, 0, 1, 1, 1]) F17_2_ok (orcCons (π := [1, 1, 1, 0, 0, 1, 0, 0, 1, 1, 1, 1, 1, 0, 0, 1, 0, 0, 1, 0, 1, 1, 1]) F17_3_ok (orcNil F17_code)))) _ _ rfl (okC_at F17_code_ok [1, 0, 0, 1, 0, 0, 1, 1, 1, 1, 1, 0, 0, 1, 0, 0, 1, 0, 1, 1, 1]) _ _ _ (rsh_out h)).mono ?_
  intro o t w q
  cases o with
  | normal => exact out_ok [0, 1, 2, 7, 8, 9, 10, 11] q
  | exit i => exact q.elim
  | ret => exact q.elim
def F17_5C (K2 : Value → Value → Value → Value → Value → Value → World → Prop) : Post := fun o t w => match o with | .normal => False | .exit i => (match Nat.beq i 2 with | true => K2 (t 0) (t 1) (t 2) (t 7) (t 8) (t 9) w | false => False) | .ret => False
def F17_5B (R : Value → Value → Value → Value → Value → Value → Value → Value → World → Prop) (K2 : Value → Value → Value → Value → Value → Value → World → Prop) (x0 : Value) (x1 : Value) (x2 : Value) (x7 : Value) (x8 : Value) (x9 : Value) (x10 : Value) (x11 : Value) (w : World) : Prop :=
  rdC x0 fun l1a l1n l1c => rdI .u32 x1 fun n2 => rdI .i64 x2 fun n3 => rdC x7 fun l4a l4n l4c => rdC x8 fun l5a l5n l5c => rdI .i64 x9 fun n6 => rdA x10 fun a7 => rdI .i64 x11 fun n8 => ldC (a7.add 4) w fun _ l9n _ => br (decide ((n8 : Int) < (l9n : Int))) (drw w fun w10 => ldI .u16 (a7.add 0) w10 fun n11 => ldI .u16 (a7.add 1) w10 fun n12 => ldC (a7.add 4) w10 fun l13a l13n l13c => ldC (a7.add 4) w10 fun _ l14n _ => ((Pres w10 w10 ∧ (slS 1 l13a l13n l13c (some (.int .i64 n8)) (some (.int .i64 (if ((l14n : Int) : Int) < (IntKind.wrap .i64 (n8 + n3)) then (l14n : Int) else (IntKind.wrap .i64 (n8 + n3))))) fun l15a l15n l15c => ((Calls Try.prog 12 #[(.int .u32 n2), (.int .u8 0), (.int .u16 n11), (.int .u16 n12), (.slice l15a l15n l15c)] w10 fun e17 w16 => exR35 fun s18 => e17 = .returned s18.v ∧ (alc (.cells ((R35.mk 0 0 0 0 0 0 0 0 0 0 none 0 0 none 0 0 none 0 0 none 0 0 none 0 0)).c 36) w16 fun b19 w20 => Pres w10 w20 ∧ (stcL (Addr.mk b19 0 none) 0 s18.l w20 fun w21 => F17_4 (fun y0_21 y1_21 y2_21 y7_21 y8_21 y9_21 y10_21 y11_21 w23 => ∀ _g24 : Tm, rdC y0_21 fun l25a l25n l25c => rdI .u32 y1_21 fun n26 => rdI .i64 y2_21 fun n27 => rdC y7_21 fun l28a l28n l28c => rdC y8_21 fun l29a l29n l29c => rdI .i64 y9_21 fun n30 => rdA y10_21 fun a31 => rdI .i64 y11_21 fun n32 => R (.slice l25a l25n l25c) (.int .u32 n26) (.int .i64 n27) (.slice l28a l28n l28c) (.slice l29a l29n l29c) (.int .i64 n30) (.pointer (some a31)) (.int .i64 (IntKind.wrap .i64 (n32 + n27))) w23) (.slice l1a l1n l1c) (.int .u32 n2) (.int .i64 n3) (.slice l4a l4n l4c) (.slice l5a l5n l5c) (.int .i64 n6) (.pointer (some a7)) (.int .i64 n8) (.pointer (some (Addr.mk b19 0 none))) w21))) ∧ (alc (.cells ((R35.mk 0 0 0 0 0 0 0 0 0 0 none 0 0 none 0 0 none 0 0 none 0 0 none 0 0)).c 36) w10 fun b33 w34 => Pres w10 w34 ∧ (Calls Try.prog 12 #[(.int .u32 n2), (.int .u8 0), (.int .u16 n11), (.int .u16 n12), (.slice l15a l15n l15c)] w34 fun e36 w35 => exR35 fun s37 => e36 = .returned s37.v ∧ (stcL (Addr.mk b33 0 none) 0 s37.l w35 fun w38 => F17_4 (fun y0_38 y1_38 y2_38 y7_38 y8_38 y9_38 y10_38 y11_38 w40 => ∀ _g41 : Tm, rdC y0_38 fun l42a l42n l42c => rdI .u32 y1_38 fun n43 => rdI .i64 y2_38 fun n44 => rdC y7_38 fun l45a l45n l45c => rdC y8_38 fun l46a l46n l46c => rdI .i64 y9_38 fun n47 => rdA y10_38 fun a48 => rdI .i64 y11_38 fun n49 => R (.slice l42a l42n l42c) (.int .u32 n43) (.int .i64 n44) (.slice l45a l45n l45c) (.slice l46a l46n l46c) (.int .i64 n47) (.pointer (some a48)) (.int .i64 (IntKind.wrap .i64 (n49 + n44))) w40) (.slice l1a l1n l1c) (.int .u32 n2) (.int .i64 n3) (.slice l4a l4n l4c) (.slice l5a l5n l5c) (.int .i64 n6) (.pointer (some a7)) (.int .i64 n8) (.pointer (some (Addr.mk b33 0 none))) w38)))))) ∧ (alc (.cells ((R35.mk 0 0 0 0 0 0 0 0 0 0 none 0 0 none 0 0 none 0 0 none 0 0 none 0 0)).c 36) w10 fun b50 w51 => Pres w10 w51 ∧ (Pres w10 w51 ∧ (slS 1 l13a l13n l13c (some (.int .i64 n8)) (some (.int .i64 (if ((l14n : Int) : Int) < (IntKind.wrap .i64 (n8 + n3)) then (l14n : Int) else (IntKind.wrap .i64 (n8 + n3))))) fun l52a l52n l52c => Calls Try.prog 12 #[(.int .u32 n2), (.int .u8 0), (.int .u16 n11), (.int .u16 n12), (.slice l52a l52n l52c)] w51 fun e54 w53 => exR35 fun s55 => e54 = .returned s55.v ∧ (stcL (Addr.mk b50 0 none) 0 s55.l w53 fun w56 => F17_4 (fun y0_56 y1_56 y2_56 y7_56 y8_56 y9_56 y10_56 y11_56 w58 => ∀ _g59 : Tm, rdC y0_56 fun l60a l60n l60c => rdI .u32 y1_56 fun n61 => rdI .i64 y2_56 fun n62 => rdC y7_56 fun l63a l63n l63c => rdC y8_56 fun l64a l64n l64c => rdI .i64 y9_56 fun n65 => rdA y10_56 fun a66 => rdI .i64 y11_56 fun n67 => R (.slice l60a l60n l60c) (.int .u32 n61) (.int .i64 n62) (.slice l63a l63n l63c) (.slice l64a l64n l64c) (.int .i64 n65) (.pointer (some a66)) (.int .i64 (IntKind.wrap .i64 (n67 + n62))) w58) (.slice l1a l1n l1c) (.int .u32 n2) (.int .i64 n3) (.slice l4a l4n l4c) (.slice l5a l5n l5c) (.int .i64 n6) (.pointer (some a7)) (.int .i64 n8) (.pointer (some (Addr.mk b50 0 none))) w56)))))) (K2 (.slice l1a l1n l1c) (.int .u32 n2) (.int .i64 n3) (.slice l4a l4n l4c) (.slice l5a l5n l5c) (.int .i64 n6) w)
def F17_5 (K2 : Value → Value → Value → Value → Value → Value → World → Prop) : Nat → Value → Value → Value → Value → Value → Value → Value → Value → World → Prop
  | 0 => fun _ _ _ _ _ _ _ _ _ => False
  | n + 1 => F17_5B (F17_5 K2 n) K2
def F17_5O (Q : Post) (t : Tm) (w : World) : Prop := ∃ n, F17_5 (fun y0 y1 y2 y7 y8 y9 w => ∀ g, rsh [(0, (.one .slc)), (1, (.one (.int .u32))), (2, (.one (.int .i64))), (7, (.one .slc)), (8, (.one .slc)), (9, (.one (.int .i64)))] (upds g [(0, y0), (1, y1), (2, y2), (7, y7), (8, y8), (9, y9)]) fun t => Q (.exit 2) t w) n (t 0) (t 1) (t 2) (t 7) (t 8) (t 9) (t 10) (t 11) w
theorem F17_5_step (K2 : Value → Value → Value → Value → Value → Value → World → Prop) (n : Nat) (t : Tm) (w : World) : (F17_5 K2 (n + 1) (t 0) (t 1) (t 2) (t 7) (t 8) (t 9) (t 10) (t 11) w) = rsh [(0, (.one .slc)), (1, (.one (.int .u32))), (2, (.one (.int .i64))), (7, (.one .slc)), (8, (.one .slc)), (9, (.one (.int .i64))), (10, (.one .adr)), (11, (.one (.int .i64)))] t (fun t => vc Try.prog (orcOf [([1, 1, 1, 1, 1, 0, 0, 1, 0, 0, 1, 1, 1, 1, 1, 0, 0, 1, 0, 0, 1, 0, 1, 1, 1], F17_1O), ([1, 1, 1, 1, 0, 0, 1, 0, 0, 1, 1, 1, 1, 1, 0, 0, 1, 0, 0, 1, 0, 1, 1, 1], F17_2O), ([1, 1, 1, 0, 0, 1, 0, 0, 1, 1, 1, 1, 1, 0, 0, 1, 0, 0, 1, 0, 1, 1, 1], F17_3O), ([1, 0, 0, 1, 0, 0, 1, 1, 1, 1, 1, 0, 0, 1, 0, 0, 1, 0, 1, 1, 1], F17_4O)]) [0, 0, 1, 1, 1, 1, 1, 0, 0, 1, 0, 0, 1, 0, 1, 1, 1] (getAt F17_code [0, 0, 1, 1, 1, 1, 1, 0, 0, 1, 0, 0, 1, 0, 1, 1, 1]) (fun o t w => match o with | .normal => F17_5 K2 n (t 0) (t 1) (t 2) (t 7) (t 8) (t 9) (t 10) (t 11) w | .exit i => F17_5C K2 (.exit i) t w | .ret => F17_5C K2 .ret t w) t w) := by kernel_rfl
theorem F17_5_ok : ∀ Q t w, F17_5O Q t w → W Try.prog Try.f17.ntmps (getAt F17_code [0, 1, 1, 1, 1, 1, 0, 0, 1, 0, 0, 1, 0, 1, 1, 1]) Q t w := by
  intro Q t w ⟨n, h⟩
  refine (W_loop (P := Try.prog) (b := getAt F17_code [0, 0, 1, 1, 1, 1, 1, 0, 0, 1, 0, 0, 1, 0, 1, 1, 1]) (Q := F17_5C (fun y0 y1 y2 y7 y8 y9 w => ∀ g, rsh [(0, (.one .slc)), (1, (.one (.int .u32))), (2, (.one (.int .i64))), (7, (.one .slc)), (8, (.one .slc)), (9, (.one (.int .i64)))] (upds g [(0, y0), (1, y1), (2, y2), (7, y7), (8, y8), (9, y9)]) fun t => Q (.exit 2) t w)) (G := fun n t w => F17_5 (fun y0 y1 y2 y7 y8 y9 w => ∀ g, rsh [(0, (.one .slc)), (1, (.one (.int .u32))), (2, (.one (.int .i64))), (7, (.one .slc)), (8, (.one .slc)), (9, (.one (.int .i64)))] (upds g [(0, y0), (1, y1), (2, y2), (7, y7), (8, y8), (9, y9)]) fun t => Q (.exit 2) t w) n (t 0) (t 1) (t 2) (t 7) (t 8) (t 9) (t 10) (t 11) w) (fun _ _ h => h) (fun n t w h => ?_) n t w h).mono ?_
  · rw [F17_5_step] at h
    exact vc_sound mixed (orcCons (π := [1, 1, 1, 1, 1, 0, 0, 1, 0, 0, 1, 1, 1, 1, 1, 0, 0, 1, 0, 0, 1, 0, 1, 1, 1]) F17_1_ok (orcCons (π := [1, 1, 1, 1, 0, 0, 1, 0, 0, 1, 1, 1, 1, 1, 0, 0, 1, 0, 0, 1, 0, 1, 1, 1]) F17_2_ok (orcCons (π := [1, 1, 1, 0, 0, 1, 0, 0, 1, 1, 1, 1, 1, 0, 0, 1, 0, 0, 1, 0, 1, 1, 1]) F17_3_ok (orcCons (π := [1, 0, 0, 1, 0, 0, 1, 1, 1, 1, 1, 0, 0, 1, 0, 0, 1, 0, 1, 1, 1]) F17_4_ok (orcNil F17_code))))) _ _ rfl (okC_at F17_code_ok [0, 0, 1, 1, 1, 1, 1, 0, 0, 1, 0, 0, 1, 0, 1, 1, 1]) _ _ _ (rsh_out h)
  · intro o t w q
    cases o with
    | normal => exact q.elim
    | exit i =>
      unfold F17_5C at q
      simp only at q
      split at q
      · rename_i hi
        rw [nbeq] at hi
        subst hi
        exact out_ok [0, 1, 2, 7, 8, 9] q
      · exact q.elim
    | ret => exact q.elim
def F17_6C (Kn : Value → Value → Value → Value → Value → Value → World → Prop) : Post := fun o t w => match o with | .normal => Kn (t 0) (t 1) (t 2) (t 7) (t 8) (t 9) w | .exit _ => (False) | .ret => False
def F17_6 (Kn : Value → Value → Value → Value → Value → Value → World → Prop) (x0 : Value) (x1 : Value) (x2 : Value) (x7 : Value) (x8 : Value) (x9 : Value) (x10 : Value) (w : World) : Prop :=
  rdC x0 fun l1a l1n l1c => rdI .u32 x1 fun n2 => rdI .i64 x2 fun n3 => rdC x7 fun l4a l4n l4c => rdC x8 fun l5a l5n l5c => rdI .i64 x9 fun n6 => rdA x10 fun a7 => ∃ k17 : Nat, F17_5 (fun y0_7 y1_7 y2_7 y7_7 y8_7 y9_7 w9 => ∀ _g10 : Tm, rdC y0_7 fun l11a l11n l11c => rdI .u32 y1_7 fun n12 => rdI .i64 y2_7 fun n13 => rdC y7_7 fun l14a l14n l14c => rdC y8_7 fun l15a l15n l15c => rdI .i64 y9_7 fun n16 => Kn (.slice l11a l11n l11c) (.int .u32 n12) (.int .i64 n13) (.slice l14a l14n l14c) (.slice l15a l15n l15c) (.int .i64 n16) w9) k17 (.slice l1a l1n l1c) (.int .u32 n2) (.int .i64 n3) (.slice l4a l4n l4c) (.slice l5a l5n l5c) (.int .i64 n6) (.pointer (some a7)) (.int .i64 0) w
def F17_6O (Q : Post) (t : Tm) (w : World) : Prop := F17_6 (fun y0 y1 y2 y7 y8 y9 w => ∀ g, rsh [(0, (.one .slc)), (1, (.one (.int .u32))), (2, (.one (.int .i64))), (7, (.one .slc)), (8, (.one .slc)), (9, (.one (.int .i64)))] (upds g [(0, y0), (1, y1), (2, y2), (7, y7), (8, y8), (9, y9)]) fun t => Q .normal t w) (t 0) (t 1) (t 2) (t 7) (t 8) (t 9) (t 10) w
theorem F17_6_step (Kn : Value → Value → Value → Value → Value → Value → World → Prop) (t : Tm) (w : World) : (F17_6 Kn (t 0) (t 1) (t 2) (t 7) (t 8) (t 9) (t 10) w) = rsh [(0, (.one .slc)), (1, (.one (.int .u32))), (2, (.one (.int .i64))), (7, (.one .slc)), (8, (.one .slc)), (9, (.one (.int .i64))), (10, (.one .adr))] t (fun t => vc Try.prog (orcOf [([1, 1, 1, 1, 1, 0, 0, 1, 0, 0, 1, 1, 1, 1, 1, 0, 0, 1, 0, 0, 1, 0, 1, 1, 1], F17_1O), ([1, 1, 1, 1, 0, 0, 1, 0, 0, 1, 1, 1, 1, 1, 0, 0, 1, 0, 0, 1, 0, 1, 1, 1], F17_2O), ([1, 1, 1, 0, 0, 1, 0, 0, 1, 1, 1, 1, 1, 0, 0, 1, 0, 0, 1, 0, 1, 1, 1], F17_3O), ([1, 0, 0, 1, 0, 0, 1, 1, 1, 1, 1, 0, 0, 1, 0, 0, 1, 0, 1, 1, 1], F17_4O), ([0, 1, 1, 1, 1, 1, 0, 0, 1, 0, 0, 1, 0, 1, 1, 1], F17_5O)]) [1, 1, 1, 1, 0, 0, 1, 0, 0, 1, 0, 1, 1, 1] (getAt F17_code [1, 1, 1, 1, 0, 0, 1, 0, 0, 1, 0, 1, 1, 1]) (F17_6C Kn) t w) := by kernel_rfl
theorem F17_6_ok : ∀ Q t w, F17_6O Q t w → W Try.prog Try.f17.ntmps (getAt F17_code [1, 1, 1, 1, 0, 0, 1, 0, 0, 1, 0, 1, 1, 1]) Q t w := by
  intro Q t w h
  unfold F17_6O at h
  rw [F17_6_step] at h
  refine (vc_sound mixed (orcCons (π := [1, 1, 1, 1, 1, 0, 0, 1, 0, 0, 1, 1, 1, 1, 1, 0, 0, 1, 0, 0, 1, 0, 1, 1, 1]) F17_1_ok (orcCons (π := [1, 1, 1, 1, 0, 0, 1, 0, 0, 1, 1, 1, 1, 1, 0, 0, 1, 0, 0, 1, 0, 1, 1, 1]) F17_2_ok (orcCons (π := [1, 1, 1, 0, 0, 1, 0, 0, 1, 1, 1, 1, 1, 0, 0, 1, 0, 0, 1, 0, 1, 1, 1]) F17_3_ok (orcCons (π := [1, 0, 0, 1, 0, 0, 1, 1, 1, 1, 1, 0, 0, 1, 0, 0, 1, 0, 1, 1, 1]) F17_4_ok (orcCons (π := [0, 1, 1, 1, 1, 1, 0, 0, 1, 0, 0, 1, 0, 1, 1, 1]) F17_5_ok (orcNil F17_code)))))) _ _ rfl (okC_at F17_code_ok [1, 1, 1, 1, 0, 0, 1, 0, 0, 1, 0, 1, 1, 1]) _ _ _ (rsh_out h)).mono ?_
  intro o t w q
  cases o with
  | normal => exact out_ok [0, 1, 2, 7, 8, 9] q
  | exit i => exact q.elim
  | ret => exact q.elim
def F17_7C (K0 : Value → World → Prop) : Post := fun o t w => match o with | .normal => False | .exit i => (match Nat.beq i 0 with | true => K0 (t 7) w | false => False) | .ret => False
def F17_7B (R : Value → Value → Value → Value → Value → Value → World → Prop) (K0 : Value → World → Prop) (x0 : Value) (x1 : Value) (x2 : Value) (x7 : Value) (x8 : Value) (x9 : Value) (w : World) : Prop :=
  rdC x0 fun l1a l1n l1c => rdI .u32 x1 fun n2 => rdI .i64 x2 fun n3 => rdC x7 fun l4a l4n l4c => rdC x8 fun l5a l5n l5c => rdI .i64 x9 fun n6 => br (decide ((n6 : Int) < (l1n : Int))) (ixS 5 l1a l1n n6 fun a7 => ldR38 a7 w fun s8 => alc (.cells ((R38.mk 0 0 0 false none 0 0)).c 39) w fun b9 w10 => stcL (Addr.mk b9 0 none) 0 s8.l w10 fun w11 => ldI .u16 ((Addr.mk b9 0 none).add 0) w11 fun n12 => stc ((Addr.mk b9 0 none).add 0) (.int .u16 (Int.tmod n12 4)) w11 fun w13 => stc ((Addr.mk b9 0 none).add 1) (.int .u16 0) w13 fun w14 => ldB ((Addr.mk b9 0 none).add 3) w14 fun b15 => br (!b15) (ldI .u16 ((Addr.mk b9 0 none).add 0) w14 fun n16 => ixS 1 l5a l5n n16 fun a17 => ldI .u16 a17 w14 fun n18 => stc ((Addr.mk b9 0 none).add 1) (.int .u16 n18) w14 fun w19 => ldI .u16 ((Addr.mk b9 0 none).add 0) w19 fun n20 => ixS 1 l5a l5n n20 fun a21 => ldI .u16 a21 w19 fun n22 => ixS 1 l5a l5n n20 fun a23 => stc a23 (.int .u16 (IntKind.wrap .u16 (n22 + 1))) w19 fun w24 => F17_6 (fun y0_24 y1_24 y2_24 y7_24 y8_24 y9_24 w26 => ∀ _g27 : Tm, rdC y0_24 fun l28a l28n l28c => rdI .u32 y1_24 fun n29 => rdI .i64 y2_24 fun n30 => rdC y7_24 fun l31a l31n l31c => rdC y8_24 fun l32a l32n l32c => rdI .i64 y9_24 fun n33 => R (.slice l28a l28n l28c) (.int .u32 n29) (.int .i64 n30) (.slice l31a l31n l31c) (.slice l32a l32n l32c) (.int .i64 (IntKind.wrap .i64 (n33 + 1))) w26) (.slice l1a l1n l1c) (.int .u32 n2) (.int .i64 n3) (.slice l4a l4n l4c) (.slice l5a l5n l5c) (.int .i64 n6) (.pointer (some (Addr.mk b9 0 none))) w24) (F17_6 (fun y0_33 y1_33 y2_33 y7_33 y8_33 y9_33 w35 => ∀ _g36 : Tm, rdC y0_33 fun l37a l37n l37c => rdI .u32 y1_33 fun n38 => rdI .i64 y2_33 fun n39 => rdC y7_33 fun l40a l40n l40c => rdC y8_33 fun l41a l41n l41c => rdI .i64 y9_33 fun n42 => R (.slice l37a l37n l37c) (.int .u32 n38) (.int .i64 n39) (.slice l40a l40n l40c) (.slice l41a l41n l41c) (.int .i64 (IntKind.wrap .i64 (n42 + 1))) w35) (.slice l1a l1n l1c) (.int .u32 n2) (.int .i64 n3) (.slice l4a l4n l4c) (.slice l5a l5n l5c) (.int .i64 n6) (.pointer (some (Addr.mk b9 0 none))) w14)) (K0 (.slice l4a l4n l4c) w)
def F17_7 (K0 : Value → World → Prop) : Nat → Value → Value → Value → Value → Value → Value → World → Prop
  | 0 => fun _ _ _ _ _ _ _ => False
  | n + 1 => F17_7B (F17_7 K0 n) K0
def F17_7O (Q : Post) (t : Tm) (w : World) : Prop := ∃ n, F17_7 (fun y7 w => ∀ g, rsh [(7, (.one .slc))] (upds g [(7, y7)]) fun t => Q (.exit 0) t w) n (t 0) (t 1) (t 2) (t 7) (t 8) (t 9) w
theorem F17_7_step (K0 : Value → World → Prop) (n : Nat) (t : Tm) (w : World) : (F17_7 K0 (n + 1) (t 0) (t 1) (t 2) (t 7) (t 8) (t 9) w) = rsh [(0, (.one .slc)), (1, (.one (.int .u32))), (2, (.one (.int .i64))), (7, (.one .slc)), (8, (.one .slc)), (9, (.one (.int .i64)))] t (fun t => vc Try.prog (orcOf [([1, 1, 1, 1, 1, 0, 0, 1, 0, 0, 1, 1, 1, 1, 1, 0, 0, 1, 0, 0, 1, 0, 1, 1, 1], F17_1O), ([1, 1, 1, 1, 0, 0, 1, 0, 0, 1, 1, 1, 1, 1, 0, 0, 1, 0, 0, 1, 0, 1, 1, 1], F17_2O), ([1, 1, 1, 0, 0, 1, 0, 0, 1, 1, 1, 1, 1, 0, 0, 1, 0, 0, 1, 0, 1, 1, 1], F17_3O), ([1, 0, 0, 1, 0, 0, 1, 1, 1, 1, 1, 0, 0, 1, 0, 0, 1, 0, 1, 1, 1], F17_4O), ([0, 1, 1, 1, 1, 1, 0, 0, 1, 0, 0, 1, 0, 1, 1, 1], F17_5O), ([1, 1, 1, 1, 0, 0, 1, 0, 0, 1, 0, 1, 1, 1], F17_6O)]) [0, 0, 1, 0, 1, 1, 1] (getAt F17_code [0, 0, 1, 0, 1, 1, 1]) (fun o t w => match o with | .normal => F17_7 K0 n (t 0) (t 1) (t 2) (t 7) (t 8) (t 9) w | .exit i => F17_7C K0 (.exit i) t w | .ret => F17_7C K0 .ret t w) t w) := by kernel_rfl
theorem F17_7_ok : ∀ Q t w, F17_7O Q t w → W Try.prog Try.f17.ntmps (getAt F17_code [0, 1, 0, 1, 1, 1]) Q t w := by
  intro Q t w ⟨n, h⟩
  refine (W_loop (P := Try.prog) (b := getAt F17_code [0, 0, 1, 0, 1, 1, 1]) (Q := F17_7C (fun y7 w => ∀ g, rsh [(7, (.one .slc))] (upds g [(7, y7)]) fun t => Q (.exit 0) t w)) (G := fun n t w => F17_7 (fun y7 w => ∀ g, rsh [(7, (.one .slc))] (upds g [(7, y7)]) fun t => Q (.exit 0) t w) n (t 0) (t 1) (t 2) (t 7) (t 8) (t 9) w) (fun _ _ h => h) (fun n t w h => ?_) n t w h).mono ?_
  · rw [F17_7_step] at h
    exact vc_sound mixed (orcCons (π := [1, 1, 1, 1, 1, 0, 0, 1, 0, 0, 1, 1, 1, 1, 1, 0, 0, 1, 0, 0, 1, 0, 1, 1, 1]) F17_1_ok (orcCons (π := [1, 1, 1, 1, 0, 0, 1, 0, 0, 1, 1, 1, 1, 1, 0, 0, 1, 0, 0, 1, 0, 1, 1, 1]) F17_2_ok (orcCons (π := [1, 1, 1, 0, 0, 1, 0, 0, 1, 1, 1, 1, 1, 0, 0, 1, 0, 0, 1, 0, 1, 1, 1]) F17_3_ok (orcCons (π := [1, 0, 0, 1, 0, 0, 1, 1, 1, 1, 1, 0, 0, 1, 0, 0, 1, 0, 1, 1, 1]) F17_4_ok (orcCons (π := [0, 1, 1, 1, 1, 1, 0, 0, 1, 0, 0, 1, 0, 1, 1, 1]) F17_5_ok (orcCons (π := [1, 1, 1, 1, 0, 0, 1, 0, 0, 1, 0, 1, 1, 1]) F17_6_ok (orcNil F17_code))))))) _ _ rfl (okC_at F17_code_ok [0, 0, 1, 0, 1, 1, 1]) _ _ _ (rsh_out h)
  · intro o t w q
    cases o with
    | normal => exact q.elim
    | exit i =>
      unfold F17_7C at q
      simp only at q
      split at q
      · rename_i hi
        rw [nbeq] at hi
        subst hi
        exact out_ok [7] q
      · exact q.elim
    | ret => exact q.elim
def F17 (x0 : Value) (x1 : Value) (x2 : Value) (w : World) (K : Value → World → Prop) : Prop :=
  rdC x0 fun l1a l1n l1c => rdI .u32 x1 fun n2 => rdI .i64 x2 fun n3 => ∃ l4a l4n l4c, ∃ w5, Sem.run Try.prog (Instr.makeSlice 46 (.int .i64 4) (.int .i64 4)) w = .ok (.slice l4a l4n l4c) w5 ∧ (∃ k10 : Nat, F17_7 (fun y7_5 w7 => ∀ _g8 : Tm, rdC y7_5 fun l9a l9n l9c => K (.slice l9a l9n l9c) w7) k10 (.slice l1a l1n l1c) (.int .u32 n2) (.int .i64 n3) (.slice none 0 0) (.slice l4a l4n l4c) (.int .i64 0) w5)
theorem F17_step (x0 : Value) (x1 : Value) (x2 : Value) (w : World) (K : Value → World → Prop) : (F17 x0 x1 x2 w K) = rsh [(0, (.one .slc)), (1, (.one (.int .u32))), (2, (.one (.int .i64)))] (args0 #[x0, x1, x2]) (fun t => vc Try.prog (orcOf [([1, 1, 1, 1, 1, 0, 0, 1, 0, 0, 1, 1, 1, 1, 1, 0, 0, 1, 0, 0, 1, 0, 1, 1, 1], F17_1O), ([1, 1, 1, 1, 0, 0, 1, 0, 0, 1, 1, 1, 1, 1, 0, 0, 1, 0, 0, 1, 0, 1, 1, 1], F17_2O), ([1, 1, 1, 0, 0, 1, 0, 0, 1, 1, 1, 1, 1, 0, 0, 1, 0, 0, 1, 0, 1, 1, 1], F17_3O), ([1, 0, 0, 1, 0, 0, 1, 1, 1, 1, 1, 0, 0, 1, 0, 0, 1, 0, 1, 1, 1], F17_4O), ([0, 1, 1, 1, 1, 1, 0, 0, 1, 0, 0, 1, 0, 1, 1, 1], F17_5O), ([1, 1, 1, 1, 0, 0, 1, 0, 0, 1, 0, 1, 1, 1], F17_6O), ([0, 1, 0, 1, 1, 1], F17_7O)]) [] F17_code (retQ Try.prog Try.f17 K) t w) := by kernel_rfl
theorem F17_ok {x0 x1 x2 : Value} {w : World} {K : Value → World → Prop} (h : F17 x0 x1 x2 w K) : Calls Try.prog 17 #[x0, x1, x2] w fun e w' => ∃ v, e = .returned v ∧ K v w' := by
  rw [F17_step] at h
  exact calls_of (c := F17_code) mixed Try.func17 rfl (nlt rfl) (vc_sound mixed (orcCons (π := [1, 1, 1, 1, 1, 0, 0, 1, 0, 0, 1, 1, 1, 1, 1, 0, 0, 1, 0, 0, 1, 0, 1, 1, 1]) F17_1_ok (orcCons (π := [1, 1, 1, 1, 0, 0, 1, 0, 0, 1, 1, 1, 1, 1, 0, 0, 1, 0, 0, 1, 0, 1, 1, 1]) F17_2_ok (orcCons (π := [1, 1, 1, 0, 0, 1, 0, 0, 1, 1, 1, 1, 1, 0, 0, 1, 0, 0, 1, 0, 1, 1, 1]) F17_3_ok (orcCons (π := [1, 0, 0, 1, 0, 0, 1, 1, 1, 1, 1, 0, 0, 1, 0, 0, 1, 0, 1, 1, 1]) F17_4_ok (orcCons (π := [0, 1, 1, 1, 1, 1, 0, 0, 1, 0, 0, 1, 0, 1, 1, 1]) F17_5_ok (orcCons (π := [1, 1, 1, 1, 0, 0, 1, 0, 0, 1, 0, 1, 1, 1]) F17_6_ok (orcCons (π := [0, 1, 0, 1, 1, 1]) F17_7_ok (orcNil F17_code)))))))) F17_code [] rfl F17_code_ok _ _ _ (rsh_out h))
end Go.Proofs.Ytaflmpbeonoilaa
