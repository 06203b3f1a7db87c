/- Own text: part of the shallow reading of the code and of the contracts that are proved over it. -/
import Derived.Test.YtilenpnpnbdndaaGreatDoorShDf
import Derived.Test.YtilenpnpnbdndaaGreatDoorShU
import Derived.Lib.AppendStr
namespace Go.Proofs.YtilenpnpnbdndaaGreatDoor
open Go Go.Sh
set_option maxRecDepth 100000
structure R58 where
  f0 : Int
  f1 : Int
  f2 : Int
  f3 : Int
  f4 : Int
  f5 : Int
  f6 : Int
  f7 : Int
  f8 : Int
  f9 : Int
  f10 : Int
  f11 : Int
  f12 : Int
  f13 : Int
  f14 : Int
  f15 : Int
  f16 : Int
  f17 : Int
  f18 : Int
  f19 : Int
  f20 : Int
  f21 : Int
  f22 : Int
  f23 : Int
  f24 : Int
  f25 : Int
  f26 : Int
  f27 : Int
  f28 : Int
  f29 : Int
  f30 : Int
  f31 : Int
  f32 : Int
  f33 : Int
  f34 : Int
  f35 : Int
  f36 : Int
  f37 : Int
  f38 : Bool
  f39 : Bool
  f40 : Bool
  f41 : Int
  f42 : Int
  f43 : Int
  f44 : Int
  f45 : Int
  f46 : Int
  f47 : Int
  f48 : Int
  f49 : Int
  f50 : Int
  f51 : Int
  f52 : Int
  f53 : Int
  f54 : Int
  f55 : Int
  f56 : Int
  f57 : Int
  f58 : Int
  f59 : Int
  f60 : Int
  f61 : Int
  f62 : Int
  f63 : Int
  f64 : Int
  f65 : Int
  f66 : Int
  f67 : Int
  f68 : Int
  f69 : Int
  f70 : Int
  f71 : Int
  f72 : Int
  f73 : Int
  f74 : Int
  f75 : Int
  f76 : Int
  f77 : Int
  f78 : Int
  f79 : Bool
  f80 : Bool
  f81 : Bool
def R58.l (s : R58) : List Value := [.int .u8 s.f0, .int .u8 s.f1, .int .u8 s.f2, .int .u8 s.f3, .int .u8 s.f4, .int .u8 s.f5, .int .u8 s.f6, .int .u8 s.f7, .int .u8 s.f8, .int .u8 s.f9, .int .u8 s.f10, .int .u8 s.f11, .int .u8 s.f12, .int .u8 s.f13, .int .u8 s.f14, .int .u8 s.f15, .int .u64 s.f16, .int .i64 s.f17, .int .u32 s.f18, .int .u16 s.f19, .int .u16 s.f20, .int .i64 s.f21, .int .i64 s.f22, .int .u16 s.f23, .int .u16 s.f24, .int .i64 s.f25, .int .i64 s.f26, .int .i64 s.f27, .int .i64 s.f28, .int .i64 s.f29, .int .i64 s.f30, .int .i64 s.f31, .int .i64 s.f32, .int .i64 s.f33, .int .i64 s.f34, .int .i64 s.f35, .int .i64 s.f36, .int .i64 s.f37, .bool s.f38, .bool s.f39, .bool s.f40, .int .u8 s.f41, .int .u8 s.f42, .int .u8 s.f43, .int .u8 s.f44, .int .u8 s.f45, .int .u8 s.f46, .int .u8 s.f47, .int .u8 s.f48, .int .u8 s.f49, .int .u8 s.f50, .int .u8 s.f51, .int .u8 s.f52, .int .u8 s.f53, .int .u8 s.f54, .int .u8 s.f55, .int .u8 s.f56, .int .u64 s.f57, .int .i64 s.f58, .int .u32 s.f59, .int .u16 s.f60, .int .u16 s.f61, .int .i64 s.f62, .int .i64 s.f63, .int .u16 s.f64, .int .u16 s.f65, .int .i64 s.f66, .int .i64 s.f67, .int .i64 s.f68, .int .i64 s.f69, .int .i64 s.f70, .int .i64 s.f71, .int .i64 s.f72, .int .i64 s.f73, .int .i64 s.f74, .int .i64 s.f75, .int .i64 s.f76, .int .i64 s.f77, .int .i64 s.f78, .bool s.f79, .bool s.f80, .bool s.f81]
def R58.c (s : R58) : Array Value := #[.int .u8 s.f0, .int .u8 s.f1, .int .u8 s.f2, .int .u8 s.f3, .int .u8 s.f4, .int .u8 s.f5, .int .u8 s.f6, .int .u8 s.f7, .int .u8 s.f8, .int .u8 s.f9, .int .u8 s.f10, .int .u8 s.f11, .int .u8 s.f12, .int .u8 s.f13, .int .u8 s.f14, .int .u8 s.f15, .int .u64 s.f16, .int .i64 s.f17, .int .u32 s.f18, .int .u16 s.f19, .int .u16 s.f20, .int .i64 s.f21, .int .i64 s.f22, .int .u16 s.f23, .int .u16 s.f24, .int .i64 s.f25, .int .i64 s.f26, .int .i64 s.f27, .int .i64 s.f28, .int .i64 s.f29, .int .i64 s.f30, .int .i64 s.f31, .int .i64 s.f32, .int .i64 s.f33, .int .i64 s.f34, .int .i64 s.f35, .int .i64 s.f36, .int .i64 s.f37, .bool s.f38, .bool s.f39, .bool s.f40, .int .u8 s.f41, .int .u8 s.f42, .int .u8 s.f43, .int .u8 s.f44, .int .u8 s.f45, .int .u8 s.f46, .int .u8 s.f47, .int .u8 s.f48, .int .u8 s.f49, .int .u8 s.f50, .int .u8 s.f51, .int .u8 s.f52, .int .u8 s.f53, .int .u8 s.f54, .int .u8 s.f55, .int .u8 s.f56, .int .u64 s.f57, .int .i64 s.f58, .int .u32 s.f59, .int .u16 s.f60, .int .u16 s.f61, .int .i64 s.f62, .int .i64 s.f63, .int .u16 s.f64, .int .u16 s.f65, .int .i64 s.f66, .int .i64 s.f67, .int .i64 s.f68, .int .i64 s.f69, .int .i64 s.f70, .int .i64 s.f71, .int .i64 s.f72, .int .i64 s.f73, .int .i64 s.f74, .int .i64 s.f75, .int .i64 s.f76, .int .i64 s.f77, .int .i64 s.f78, .bool s.f79, .bool s.f80, .bool s.f81]
def R58.v (s : R58) : Value := .agg #[.int .u8 s.f0, .int .u8 s.f1, .int .u8 s.f2, .int .u8 s.f3, .int .u8 s.f4, .int .u8 s.f5, .int .u8 s.f6, .int .u8 s.f7, .int .u8 s.f8, .int .u8 s.f9, .int .u8 s.f10, .int .u8 s.f11, .int .u8 s.f12, .int .u8 s.f13, .int .u8 s.f14, .int .u8 s.f15, .int .u64 s.f16, .int .i64 s.f17, .int .u32 s.f18, .int .u16 s.f19, .int .u16 s.f20, .int .i64 s.f21, .int .i64 s.f22, .int .u16 s.f23, .int .u16 s.f24, .int .i64 s.f25, .int .i64 s.f26, .int .i64 s.f27, .int .i64 s.f28, .int .i64 s.f29, .int .i64 s.f30, .int .i64 s.f31, .int .i64 s.f32, .int .i64 s.f33, .int .i64 s.f34, .int .i64 s.f35, .int .i64 s.f36, .int .i64 s.f37, .bool s.f38, .bool s.f39, .bool s.f40, .int .u8 s.f41, .int .u8 s.f42, .int .u8 s.f43, .int .u8 s.f44, .int .u8 s.f45, .int .u8 s.f46, .int .u8 s.f47, .int .u8 s.f48, .int .u8 s.f49, .int .u8 s.f50, .int .u8 s.f51, .int .u8 s.f52, .int .u8 s.f53, .int .u8 s.f54, .int .u8 s.f55, .int .u8 s.f56, .int .u64 s.f57, .int .i64 s.f58, .int .u32 s.f59, .int .u16 s.f60, .int .u16 s.f61, .int .i64 s.f62, .int .i64 s.f63, .int .u16 s.f64, .int .u16 s.f65, .int .i64 s.f66, .int .i64 s.f67, .int .i64 s.f68, .int .i64 s.f69, .int .i64 s.f70, .int .i64 s.f71, .int .i64 s.f72, .int .i64 s.f73, .int .i64 s.f74, .int .i64 s.f75, .int .i64 s.f76, .int .i64 s.f77, .int .i64 s.f78, .bool s.f79, .bool s.f80, .bool s.f81]
def ldR58 (a : Addr) (w : World) (K : R58 → Prop) : Prop := ldI .u8 (a.add 0) w fun f0 => ldI .u8 (a.add 1) w fun f1 => ldI .u8 (a.add 2) w fun f2 => ldI .u8 (a.add 3) w fun f3 => ldI .u8 (a.add 4) w fun f4 => ldI .u8 (a.add 5) w fun f5 => ldI .u8 (a.add 6) w fun f6 => ldI .u8 (a.add 7) w fun f7 => ldI .u8 (a.add 8) w fun f8 => ldI .u8 (a.add 9) w fun f9 => ldI .u8 (a.add 10) w fun f10 => ldI .u8 (a.add 11) w fun f11 => ldI .u8 (a.add 12) w fun f12 => ldI .u8 (a.add 13) w fun f13 => ldI .u8 (a.add 14) w fun f14 => ldI .u8 (a.add 15) w fun f15 => ldI .u64 (a.add 16) w fun f16 => ldI .i64 (a.add 17) w fun f17 => ldI .u32 (a.add 18) w fun f18 => ldI .u16 (a.add 19) w fun f19 => ldI .u16 (a.add 20) w fun f20 => ldI .i64 (a.add 21) w fun f21 => ldI .i64 (a.add 22) w fun f22 => ldI .u16 (a.add 23) w fun f23 => ldI .u16 (a.add 24) w fun f24 => ldI .i64 (a.add 25) w fun f25 => ldI .i64 (a.add 26) w fun f26 => ldI .i64 (a.add 27) w fun f27 => ldI .i64 (a.add 28) w fun f28 => ldI .i64 (a.add 29) w fun f29 => ldI .i64 (a.add 30) w fun f30 => ldI .i64 (a.add 31) w fun f31 => ldI .i64 (a.add 32) w fun f32 => ldI .i64 (a.add 33) w fun f33 => ldI .i64 (a.add 34) w fun f34 => ldI .i64 (a.add 35) w fun f35 => ldI .i64 (a.add 36) w fun f36 => ldI .i64 (a.add 37) w fun f37 => ldB (a.add 38) w fun f38 => ldB (a.add 39) w fun f39 => ldB (a.add 40) w fun f40 => ldI .u8 (a.add 41) w fun f41 => ldI .u8 (a.add 42) w fun f42 => ldI .u8 (a.add 43) w fun f43 => ldI .u8 (a.add 44) w fun f44 => ldI .u8 (a.add 45) w fun f45 => ldI .u8 (a.add 46) w fun f46 => ldI .u8 (a.add 47) w fun f47 => ldI .u8 (a.add 48) w fun f48 => ldI .u8 (a.add 49) w fun f49 => ldI .u8 (a.add 50) w fun f50 => ldI .u8 (a.add 51) w fun f51 => ldI .u8 (a.add 52) w fun f52 => ldI .u8 (a.add 53) w fun f53 => ldI .u8 (a.add 54) w fun f54 => ldI .u8 (a.add 55) w fun f55 => ldI .u8 (a.add 56) w fun f56 => ldI .u64 (a.add 57) w fun f57 => ldI .i64 (a.add 58) w fun f58 => ldI .u32 (a.add 59) w fun f59 => ldI .u16 (a.add 60) w fun f60 => ldI .u16 (a.add 61) w fun f61 => ldI .i64 (a.add 62) w fun f62 => ldI .i64 (a.add 63) w fun f63 => ldI .u16 (a.add 64) w fun f64 => ldI .u16 (a.add 65) w fun f65 => ldI .i64 (a.add 66) w fun f66 => ldI .i64 (a.add 67) w fun f67 => ldI .i64 (a.add 68) w fun f68 => ldI .i64 (a.add 69) w fun f69 => ldI .i64 (a.add 70) w fun f70 => ldI .i64 (a.add 71) w fun f71 => ldI .i64 (a.add 72) w fun f72 => ldI .i64 (a.add 73) w fun f73 => ldI .i64 (a.add 74) w fun f74 => ldI .i64 (a.add 75) w fun f75 => ldI .i64 (a.add 76) w fun f76 => ldI .i64 (a.add 77) w fun f77 => ldI .i64 (a.add 78) w fun f78 => ldB (a.add 79) w fun f79 => ldB (a.add 80) w fun f80 => ldB (a.add 81) w fun f81 => K ⟨f0, f1, f2, f3, f4, f5, f6, f7, f8, f9, f10, f11, f12, f13, f14, f15, f16, f17, f18, f19, f20, f21, f22, f23, f24, f25, f26, f27, f28, f29, f30, f31, f32, f33, f34, f35, f36, f37, f38, f39, f40, f41, f42, f43, f44, f45, f46, f47, f48, f49, f50, f51, f52, f53, f54, f55, f56, f57, f58, f59, f60, f61, f62, f63, f64, f65, f66, f67, f68, f69, f70, f71, f72, f73, f74, f75, f76, f77, f78, f79, f80, f81⟩
def exR58 (K : R58 → Prop) : Prop := ∃ f0 f1 f2 f3 f4 f5 f6 f7 f8 f9 f10 f11 f12 f13 f14 f15 f16 f17 f18 f19 f20 f21 f22 f23 f24 f25 f26 f27 f28 f29 f30 f31 f32 f33 f34 f35 f36 f37 f38 f39 f40 f41 f42 f43 f44 f45 f46 f47 f48 f49 f50 f51 f52 f53 f54 f55 f56 f57 f58 f59 f60 f61 f62 f63 f64 f65 f66 f67 f68 f69 f70 f71 f72 f73 f74 f75 f76 f77 f78 f79 f80 f81, K ⟨f0, f1, f2, f3, f4, f5, f6, f7, f8, f9, f10, f11, f12, f13, f14, f15, f16, f17, f18, f19, f20, f21, f22, f23, f24, f25, f26, f27, f28, f29, f30, f31, f32, f33, f34, f35, f36, f37, f38, f39, f40, f41, f42, f43, f44, f45, f46, f47, f48, f49, f50, f51, f52, f53, f54, f55, f56, f57, f58, f59, f60, f61, f62, f63, f64, f65, f66, f67, f68, f69, f70, f71, f72, f73, f74, f75, f76, f77, f78, f79, f80, f81⟩
theorem exR58_of {K : R58 → Prop} (s : R58) (k : K s) : exR58 K := ⟨s.f0, s.f1, s.f2, s.f3, s.f4, s.f5, s.f6, s.f7, s.f8, s.f9, s.f10, s.f11, s.f12, s.f13, s.f14, s.f15, s.f16, s.f17, s.f18, s.f19, s.f20, s.f21, s.f22, s.f23, s.f24, s.f25, s.f26, s.f27, s.f28, s.f29, s.f30, s.f31, s.f32, s.f33, s.f34, s.f35, s.f36, s.f37, s.f38, s.f39, s.f40, s.f41, s.f42, s.f43, s.f44, s.f45, s.f46, s.f47, s.f48, s.f49, s.f50, s.f51, s.f52, s.f53, s.f54, s.f55, s.f56, s.f57, s.f58, s.f59, s.f60, s.f61, s.f62, s.f63, s.f64, s.f65, s.f66, s.f67, s.f68, s.f69, s.f70, s.f71, s.f72, s.f73, s.f74, s.f75, s.f76, s.f77, s.f78, s.f79, s.f80, s.f81, k⟩
theorem ldR58_of {a : Addr} {w : World} {s : R58} {K : R58 → Prop} (h : At w a s.l) (k : K s) : ldR58 a w K := (ldI_c (h 0 _ rfl) (ldI_c (h 1 _ rfl) (ldI_c (h 2 _ rfl) (ldI_c (h 3 _ rfl) (ldI_c (h 4 _ rfl) (ldI_c (h 5 _ rfl) (ldI_c (h 6 _ rfl) (ldI_c (h 7 _ rfl) (ldI_c (h 8 _ rfl) (ldI_c (h 9 _ rfl) (ldI_c (h 10 _ rfl) (ldI_c (h 11 _ rfl) (ldI_c (h 12 _ rfl) (ldI_c (h 13 _ rfl) (ldI_c (h 14 _ rfl) (ldI_c (h 15 _ rfl) (ldI_c (h 16 _ rfl) (ldI_c (h 17 _ rfl) (ldI_c (h 18 _ rfl) (ldI_c (h 19 _ rfl) (ldI_c (h 20 _ rfl) (ldI_c (h 21 _ rfl) (ldI_c (h 22 _ rfl) (ldI_c (h 23 _ rfl) (ldI_c (h 24 _ rfl) (ldI_c (h 25 _ rfl) (ldI_c (h 26 _ rfl) (ldI_c (h 27 _ rfl) (ldI_c (h 28 _ rfl) (ldI_c (h 29 _ rfl) (ldI_c (h 30 _ rfl) (ldI_c (h 31 _ rfl) (ldI_c (h 32 _ rfl) (ldI_c (h 33 _ rfl) (ldI_c (h 34 _ rfl) (ldI_c (h 35 _ rfl) (ldI_c (h 36 _ rfl) (ldI_c (h 37 _ rfl) (ldB_c (h 38 _ rfl) (ldB_c (h 39 _ rfl) (ldB_c (h 40 _ rfl) (ldI_c (h 41 _ rfl) (ldI_c (h 42 _ rfl) (ldI_c (h 43 _ rfl) (ldI_c (h 44 _ rfl) (ldI_c (h 45 _ rfl) (ldI_c (h 46 _ rfl) (ldI_c (h 47 _ rfl) (ldI_c (h 48 _ rfl) (ldI_c (h 49 _ rfl) (ldI_c (h 50 _ rfl) (ldI_c (h 51 _ rfl) (ldI_c (h 52 _ rfl) (ldI_c (h 53 _ rfl) (ldI_c (h 54 _ rfl) (ldI_c (h 55 _ rfl) (ldI_c (h 56 _ rfl) (ldI_c (h 57 _ rfl) (ldI_c (h 58 _ rfl) (ldI_c (h 59 _ rfl) (ldI_c (h 60 _ rfl) (ldI_c (h 61 _ rfl) (ldI_c (h 62 _ rfl) (ldI_c (h 63 _ rfl) (ldI_c (h 64 _ rfl) (ldI_c (h 65 _ rfl) (ldI_c (h 66 _ rfl) (ldI_c (h 67 _ rfl) (ldI_c (h 68 _ rfl) (ldI_c (h 69 _ rfl) (ldI_c (h 70 _ rfl) (ldI_c (h 71 _ rfl) (ldI_c (h 72 _ rfl) (ldI_c (h 73 _ rfl) (ldI_c (h 74 _ rfl) (ldI_c (h 75 _ rfl) (ldI_c (h 76 _ rfl) (ldI_c (h 77 _ rfl) (ldI_c (h 78 _ rfl) (ldB_c (h 79 _ rfl) (ldB_c (h 80 _ rfl) (ldB_c (h 81 _ rfl) k))))))))))))))))))))))))))))))))))))))))))))))))))))))))))))))))))))))))))))))))))
def R58.z : R58 := ⟨0, 0, 0, 0, 0, 0, 0, 0, 0, 0, 0, 0, 0, 0, 0, 0, 0, 0, 0, 0, 0, 0, 0, 0, 0, 0, 0, 0, 0, 0, 0, 0, 0, 0, 0, 0, 0, 0, false, false, false, 0, 0, 0, 0, 0, 0, 0, 0, 0, 0, 0, 0, 0, 0, 0, 0, 0, 0, 0, 0, 0, 0, 0, 0, 0, 0, 0, 0, 0, 0, 0, 0, 0, 0, 0, 0, 0, 0, false, false, false⟩
theorem R58.l_len (s : R58) : s.l.length = 82 := rfl
structure R60 where
  f0 : Int
  f1 : Int
  f2 : Int
  f3 : Int
  f4 : Int
  f5 : Int
  f6 : Int
  f7 : Int
  f8 : Int
  f9 : Int
  f10 : Int
  f11 : Int
  f12 : Int
  f13 : Int
  f14 : Int
  f15 : Int
  f16 : Int
  f17 : Int
  f18 : Int
  f19 : Int
  f20 : Int
  f21 : Int
  f22 : Int
  f23 : Int
  f24 : Int
  f25 : Int
  f26 : Int
  f27 : Int
  f28 : Int
  f29 : Int
  f30 : Int
  f31 : Int
  f32 : Int
  f33 : Int
  f34 : Int
  f35 : Int
  f36 : Int
  f37 : Int
  f38 : Bool
  f39 : Bool
  f40 : Bool
  f41 : Int
  f42 : Int
  f43 : Int
  f44 : Int
  f45 : Int
  f46 : Int
  f47 : Int
  f48 : Int
  f49 : Int
  f50 : Int
  f51 : Int
  f52 : Int
  f53 : Int
  f54 : Int
  f55 : Int
  f56 : Int
  f57 : Int
  f58 : Int
  f59 : Int
  f60 : Int
  f61 : Int
  f62 : Int
  f63 : Int
  f64 : Int
  f65 : Int
  f66 : Int
  f67 : Int
  f68 : Int
  f69 : Int
  f70 : Int
  f71 : Int
  f72 : Int
  f73 : Int
  f74 : Int
  f75 : Int
  f76 : Int
  f77 : Int
  f78 : Int
  f79 : Bool
  f80 : Bool
  f81 : Bool
  f82a : Option Addr
  f82n : Nat
  f82c : Nat
def R60.l (s : R60) : List Value := [.int .u8 s.f0, .int .u8 s.f1, .int .u8 s.f2, .int .u8 s.f3, .int .u8 s.f4, .int .u8 s.f5, .int .u8 s.f6, .int .u8 s.f7, .int .u8 s.f8, .int .u8 s.f9, .int .u8 s.f10, .int .u8 s.f11, .int .u8 s.f12, .int .u8 s.f13, .int .u8 s.f14, .int .u8 s.f15, .int .u64 s.f16, .int .i64 s.f17, .int .u32 s.f18, .int .u16 s.f19, .int .u16 s.f20, .int .i64 s.f21, .int .i64 s.f22, .int .u16 s.f23, .int .u16 s.f24, .int .i64 s.f25, .int .i64 s.f26, .int .i64 s.f27, .int .i64 s.f28, .int .i64 s.f29, .int .i64 s.f30, .int .i64 s.f31, .int .i64 s.f32, .int .i64 s.f33, .int .i64 s.f34, .int .i64 s.f35, .int .i64 s.f36, .int .i64 s.f37, .bool s.f38, .bool s.f39, .bool s.f40, .int .u8 s.f41, .int .u8 s.f42, .int .u8 s.f43, .int .u8 s.f44, .int .u8 s.f45, .int .u8 s.f46, .int .u8 s.f47, .int .u8 s.f48, .int .u8 s.f49, .int .u8 s.f50, .int .u8 s.f51, .int .u8 s.f52, .int .u8 s.f53, .int .u8 s.f54, .int .u8 s.f55, .int .u8 s.f56, .int .u64 s.f57, .int .i64 s.f58, .int .u32 s.f59, .int .u16 s.f60, .int .u16 s.f61, .int .i64 s.f62, .int .i64 s.f63, .int .u16 s.f64, .int .u16 s.f65, .int .i64 s.f66, .int .i64 s.f67, .int .i64 s.f68, .int .i64 s.f69, .int .i64 s.f70, .int .i64 s.f71, .int .i64 s.f72, .int .i64 s.f73, .int .i64 s.f74, .int .i64 s.f75, .int .i64 s.f76, .int .i64 s.f77, .int .i64 s.f78, .bool s.f79, .bool s.f80, .bool s.f81, .slice s.f82a s.f82n s.f82c]
def R60.c (s : R60) : Array Value := #[.int .u8 s.f0, .int .u8 s.f1, .int .u8 s.f2, .int .u8 s.f3, .int .u8 s.f4, .int .u8 s.f5, .int .u8 s.f6, .int .u8 s.f7, .int .u8 s.f8, .int .u8 s.f9, .int .u8 s.f10, .int .u8 s.f11, .int .u8 s.f12, .int .u8 s.f13, .int .u8 s.f14, .int .u8 s.f15, .int .u64 s.f16, .int .i64 s.f17, .int .u32 s.f18, .int .u16 s.f19, .int .u16 s.f20, .int .i64 s.f21, .int .i64 s.f22, .int .u16 s.f23, .int .u16 s.f24, .int .i64 s.f25, .int .i64 s.f26, .int .i64 s.f27, .int .i64 s.f28, .int .i64 s.f29, .int .i64 s.f30, .int .i64 s.f31, .int .i64 s.f32, .int .i64 s.f33, .int .i64 s.f34, .int .i64 s.f35, .int .i64 s.f36, .int .i64 s.f37, .bool s.f38, .bool s.f39, .bool s.f40, .int .u8 s.f41, .int .u8 s.f42, .int .u8 s.f43, .int .u8 s.f44, .int .u8 s.f45, .int .u8 s.f46, .int .u8 s.f47, .int .u8 s.f48, .int .u8 s.f49, .int .u8 s.f50, .int .u8 s.f51, .int .u8 s.f52, .int .u8 s.f53, .int .u8 s.f54, .int .u8 s.f55, .int .u8 s.f56, .int .u64 s.f57, .int .i64 s.f58, .int .u32 s.f59, .int .u16 s.f60, .int .u16 s.f61, .int .i64 s.f62, .int .i64 s.f63, .int .u16 s.f64, .int .u16 s.f65, .int .i64 s.f66, .int .i64 s.f67, .int .i64 s.f68, .int .i64 s.f69, .int .i64 s.f70, .int .i64 s.f71, .int .i64 s.f72, .int .i64 s.f73, .int .i64 s.f74, .int .i64 s.f75, .int .i64 s.f76, .int .i64 s.f77, .int .i64 s.f78, .bool s.f79, .bool s.f80, .bool s.f81, .slice s.f82a s.f82n s.f82c]
def R60.v (s : R60) : Value := .agg #[.int .u8 s.f0, .int .u8 s.f1, .int .u8 s.f2, .int .u8 s.f3, .int .u8 s.f4, .int .u8 s.f5, .int .u8 s.f6, .int .u8 s.f7, .int .u8 s.f8, .int .u8 s.f9, .int .u8 s.f10, .int .u8 s.f11, .int .u8 s.f12, .int .u8 s.f13, .int .u8 s.f14, .int .u8 s.f15, .int .u64 s.f16, .int .i64 s.f17, .int .u32 s.f18, .int .u16 s.f19, .int .u16 s.f20, .int .i64 s.f21, .int .i64 s.f22, .int .u16 s.f23, .int .u16 s.f24, .int .i64 s.f25, .int .i64 s.f26, .int .i64 s.f27, .int .i64 s.f28, .int .i64 s.f29, .int .i64 s.f30, .int .i64 s.f31, .int .i64 s.f32, .int .i64 s.f33, .int .i64 s.f34, .int .i64 s.f35, .int .i64 s.f36, .int .i64 s.f37, .bool s.f38, .bool s.f39, .bool s.f40, .int .u8 s.f41, .int .u8 s.f42, .int .u8 s.f43, .int .u8 s.f44, .int .u8 s.f45, .int .u8 s.f46, .int .u8 s.f47, .int .u8 s.f48, .int .u8 s.f49, .int .u8 s.f50, .int .u8 s.f51, .int .u8 s.f52, .int .u8 s.f53, .int .u8 s.f54, .int .u8 s.f55, .int .u8 s.f56, .int .u64 s.f57, .int .i64 s.f58, .int .u32 s.f59, .int .u16 s.f60, .int .u16 s.f61, .int .i64 s.f62, .int .i64 s.f63, .int .u16 s.f64, .int .u16 s.f65, .int .i64 s.f66, .int .i64 s.f67, .int .i64 s.f68, .int .i64 s.f69, .int .i64 s.f70, .int .i64 s.f71, .int .i64 s.f72, .int .i64 s.f73, .int .i64 s.f74, .int .i64 s.f75, .int .i64 s.f76, .int .i64 s.f77, .int .i64 s.f78, .bool s.f79, .bool s.f80, .bool s.f81, .slice s.f82a s.f82n s.f82c]
def ldR60 (a : Addr) (w : World) (K : R60 → Prop) : Prop := ldI .u8 (a.add 0) w fun f0 => ldI .u8 (a.add 1) w fun f1 => ldI .u8 (a.add 2) w fun f2 => ldI .u8 (a.add 3) w fun f3 => ldI .u8 (a.add 4) w fun f4 => ldI .u8 (a.add 5) w fun f5 => ldI .u8 (a.add 6) w fun f6 => ldI .u8 (a.add 7) w fun f7 => ldI .u8 (a.add 8) w fun f8 => ldI .u8 (a.add 9) w fun f9 => ldI .u8 (a.add 10) w fun f10 => ldI .u8 (a.add 11) w fun f11 => ldI .u8 (a.add 12) w fun f12 => ldI .u8 (a.add 13) w fun f13 => ldI .u8 (a.add 14) w fun f14 => ldI .u8 (a.add 15) w fun f15 => ldI .u64 (a.add 16) w fun f16 => ldI .i64 (a.add 17) w fun f17 => ldI .u32 (a.add 18) w fun f18 => ldI .u16 (a.add 19) w fun f19 => ldI .u16 (a.add 20) w fun f20 => ldI .i64 (a.add 21) w fun f21 => ldI .i64 (a.add 22) w fun f22 => ldI .u16 (a.add 23) w fun f23 => ldI .u16 (a.add 24) w fun f24 => ldI .i64 (a.add 25) w fun f25 => ldI .i64 (a.add 26) w fun f26 => ldI .i64 (a.add 27) w fun f27 => ldI .i64 (a.add 28) w fun f28 => ldI .i64 (a.add 29) w fun f29 => ldI .i64 (a.add 30) w fun f30 => ldI .i64 (a.add 31) w fun f31 => ldI .i64 (a.add 32) w fun f32 => ldI .i64 (a.add 33) w fun f33 => ldI .i64 (a.add 34) w fun f34 => ldI .i64 (a.add 35) w fun f35 => ldI .i64 (a.add 36) w fun f36 => ldI .i64 (a.add 37) w fun f37 => ldB (a.add 38) w fun f38 => ldB (a.add 39) w fun f39 => ldB (a.add 40) w fun f40 => ldI .u8 (a.add 41) w fun f41 => ldI .u8 (a.add 42) w fun f42 => ldI .u8 (a.add 43) w fun f43 => ldI .u8 (a.add 44) w fun f44 => ldI .u8 (a.add 45) w fun f45 => ldI .u8 (a.add 46) w fun f46 => ldI .u8 (a.add 47) w fun f47 => ldI .u8 (a.add 48) w fun f48 => ldI .u8 (a.add 49) w fun f49 => ldI .u8 (a.add 50) w fun f50 => ldI .u8 (a.add 51) w fun f51 => ldI .u8 (a.add 52) w fun f52 => ldI .u8 (a.add 53) w fun f53 => ldI .u8 (a.add 54) w fun f54 => ldI .u8 (a.add 55) w fun f55 => ldI .u8 (a.add 56) w fun f56 => ldI .u64 (a.add 57) w fun f57 => ldI .i64 (a.add 58) w fun f58 => ldI .u32 (a.add 59) w fun f59 => ldI .u16 (a.add 60) w fun f60 => ldI .u16 (a.add 61) w fun f61 => ldI .i64 (a.add 62) w fun f62 => ldI .i64 (a.add 63) w fun f63 => ldI .u16 (a.add 64) w fun f64 => ldI .u16 (a.add 65) w fun f65 => ldI .i64 (a.add 66) w fun f66 => ldI .i64 (a.add 67) w fun f67 => ldI .i64 (a.add 68) w fun f68 => ldI .i64 (a.add 69) w fun f69 => ldI .i64 (a.add 70) w fun f70 => ldI .i64 (a.add 71) w fun f71 => ldI .i64 (a.add 72) w fun f72 => ldI .i64 (a.add 73) w fun f73 => ldI .i64 (a.add 74) w fun f74 => ldI .i64 (a.add 75) w fun f75 => ldI .i64 (a.add 76) w fun f76 => ldI .i64 (a.add 77) w fun f77 => ldI .i64 (a.add 78) w fun f78 => ldB (a.add 79) w fun f79 => ldB (a.add 80) w fun f80 => ldB (a.add 81) w fun f81 => ldC (a.add 82) w fun f82a f82n f82c => K ⟨f0, f1, f2, f3, f4, f5, f6, f7, f8, f9, f10, f11, f12, f13, f14, f15, f16, f17, f18, f19, f20, f21, f22, f23, f24, f25, f26, f27, f28, f29, f30, f31, f32, f33, f34, f35, f36, f37, f38, f39, f40, f41, f42, f43, f44, f45, f46, f47, f48, f49, f50, f51, f52, f53, f54, f55, f56, f57, f58, f59, f60, f61, f62, f63, f64, f65, f66, f67, f68, f69, f70, f71, f72, f73, f74, f75, f76, f77, f78, f79, f80, f81, f82a, f82n, f82c⟩
def exR60 (K : R60 → Prop) : Prop := ∃ f0 f1 f2 f3 f4 f5 f6 f7 f8 f9 f10 f11 f12 f13 f14 f15 f16 f17 f18 f19 f20 f21 f22 f23 f24 f25 f26 f27 f28 f29 f30 f31 f32 f33 f34 f35 f36 f37 f38 f39 f40 f41 f42 f43 f44 f45 f46 f47 f48 f49 f50 f51 f52 f53 f54 f55 f56 f57 f58 f59 f60 f61 f62 f63 f64 f65 f66 f67 f68 f69 f70 f71 f72 f73 f74 f75 f76 f77 f78 f79 f80 f81 f82a f82n f82c, K ⟨f0, f1, f2, f3, f4, f5, f6, f7, f8, f9, f10, f11, f12, f13, f14, f15, f16, f17, f18, f19, f20, f21, f22, f23, f24, f25, f26, f27, f28, f29, f30, f31, f32, f33, f34, f35, f36, f37, f38, f39, f40, f41, f42, f43, f44, f45, f46, f47, f48, f49, f50, f51, f52, f53, f54, f55, f56, f57, f58, f59, f60, f61, f62, f63, f64, f65, f66, f67, f68, f69, f70, f71, f72, f73, f74, f75, f76, f77, f78, f79, f80, f81, f82a, f82n, f82c⟩
theorem exR60_of {K : R60 → Prop} (s : R60) (k : K s) : exR60 K := ⟨s.f0, s.f1, s.f2, s.f3, s.f4, s.f5, s.f6, s.f7, s.f8, s.f9, s.f10, s.f11, s.f12, s.f13, s.f14, s.f15, s.f16, s.f17, s.f18, s.f19, s.f20, s.f21, s.f22, s.f23, s.f24, s.f25, s.f26, s.f27, s.f28, s.f29, s.f30, s.f31, s.f32, s.f33, s.f34, s.f35, s.f36, s.f37, s.f38, s.f39, s.f40, s.f41, s.f42, s.f43, s.f44, s.f45, s.f46, s.f47, s.f48, s.f49, s.f50, s.f51, s.f52, s.f53, s.f54, s.f55, s.f56, s.f57, s.f58, s.f59, s.f60, s.f61, s.f62, s.f63, s.f64, s.f65, s.f66, s.f67, s.f68, s.f69, s.f70, s.f71, s.f72, s.f73, s.f74, s.f75, s.f76, s.f77, s.f78, s.f79, s.f80, s.f81, s.f82a, s.f82n, s.f82c, k⟩
theorem ldR60_of {a : Addr} {w : World} {s : R60} {K : R60 → Prop} (h : At w a s.l) (k : K s) : ldR60 a w K := (ldI_c (h 0 _ rfl) (ldI_c (h 1 _ rfl) (ldI_c (h 2 _ rfl) (ldI_c (h 3 _ rfl) (ldI_c (h 4 _ rfl) (ldI_c (h 5 _ rfl) (ldI_c (h 6 _ rfl) (ldI_c (h 7 _ rfl) (ldI_c (h 8 _ rfl) (ldI_c (h 9 _ rfl) (ldI_c (h 10 _ rfl) (ldI_c (h 11 _ rfl) (ldI_c (h 12 _ rfl) (ldI_c (h 13 _ rfl) (ldI_c (h 14 _ rfl) (ldI_c (h 15 _ rfl) (ldI_c (h 16 _ rfl) (ldI_c (h 17 _ rfl) (ldI_c (h 18 _ rfl) (ldI_c (h 19 _ rfl) (ldI_c (h 20 _ rfl) (ldI_c (h 21 _ rfl) (ldI_c (h 22 _ rfl) (ldI_c (h 23 _ rfl) (ldI_c (h 24 _ rfl) (ldI_c (h 25 _ rfl) (ldI_c (h 26 _ rfl) (ldI_c (h 27 _ rfl) (ldI_c (h 28 _ rfl) (ldI_c (h 29 _ rfl) (ldI_c (h 30 _ rfl) (ldI_c (h 31 _ rfl) (ldI_c (h 32 _ rfl) (ldI_c (h 33 _ rfl) (ldI_c (h 34 _ rfl) (ldI_c (h 35 _ rfl) (ldI_c (h 36 _ rfl) (ldI_c (h 37 _ rfl) (ldB_c (h 38 _ rfl) (ldB_c (h 39 _ rfl) (ldB_c (h 40 _ rfl) (ldI_c (h 41 _ rfl) (ldI_c (h 42 _ rfl) (ldI_c (h 43 _ rfl) (ldI_c (h 44 _ rfl) (ldI_c (h 45 _ rfl) (ldI_c (h 46 _ rfl) (ldI_c (h 47 _ rfl) (ldI_c (h 48 _ rfl) (ldI_c (h 49 _ rfl) (ldI_c (h 50 _ rfl) (ldI_c (h 51 _ rfl) (ldI_c (h 52 _ rfl) (ldI_c (h 53 _ rfl) (ldI_c (h 54 _ rfl) (ldI_c (h 55 _ rfl) (ldI_c (h 56 _ rfl) (ldI_c (h 57 _ rfl) (ldI_c (h 58 _ rfl) (ldI_c (h 59 _ rfl) (ldI_c (h 60 _ rfl) (ldI_c (h 61 _ rfl) (ldI_c (h 62 _ rfl) (ldI_c (h 63 _ rfl) (ldI_c (h 64 _ rfl) (ldI_c (h 65 _ rfl) (ldI_c (h 66 _ rfl) (ldI_c (h 67 _ rfl) (ldI_c (h 68 _ rfl) (ldI_c (h 69 _ rfl) (ldI_c (h 70 _ rfl) (ldI_c (h 71 _ rfl) (ldI_c (h 72 _ rfl) (ldI_c (h 73 _ rfl) (ldI_c (h 74 _ rfl) (ldI_c (h 75 _ rfl) (ldI_c (h 76 _ rfl) (ldI_c (h 77 _ rfl) (ldI_c (h 78 _ rfl) (ldB_c (h 79 _ rfl) (ldB_c (h 80 _ rfl) (ldB_c (h 81 _ rfl) (ldC_c (h 82 _ rfl) k)))))))))))))))))))))))))))))))))))))))))))))))))))))))))))))))))))))))))))))))))))
def R60.z : R60 := ⟨0, 0, 0, 0, 0, 0, 0, 0, 0, 0, 0, 0, 0, 0, 0, 0, 0, 0, 0, 0, 0, 0, 0, 0, 0, 0, 0, 0, 0, 0, 0, 0, 0, 0, 0, 0, 0, 0, false, false, false, 0, 0, 0, 0, 0, 0, 0, 0, 0, 0, 0, 0, 0, 0, 0, 0, 0, 0, 0, 0, 0, 0, 0, 0, 0, 0, 0, 0, 0, 0, 0, 0, 0, 0, 0, 0, 0, 0, false, false, false, none, 0, 0⟩
theorem R60.l_len (s : R60) : s.l.length = 83 := rfl
end Go.Proofs.YtilenpnpnbdndaaGreatDoor
/-
  append(buf, s...), s a text, onto an own slice of bytes.
-/
namespace Go.Sh
open Go
section
variable {P : Program} {W w : World} {L : List HP} {t u ty e : TypeId} {inf : TypeInfo} {a : Option Addr} {l c : Nat} {xs : List Value}
theorem append_str_own {base : Nat} (E : ElemT P t e 1 1 (.int .u8 0) inf) (hu : P.underlying u = some .string) (h : Own w base e 1 a l c xs) {s : ByteArray} (hb : l + s.size ≤ 140737488355328) (hbase : base ≤ w.heap.size) :
    ∃ a' l' c' w', Sem.run P (Builtin.append_ #[t, u] ty #[.slice a l c, .string s]) w = .ok (.slice a' l' c') w' ∧ l' = l + s.size ∧ Own w' base e 1 a' l' c' (xs ++ Lib.strCells s) ∧ Fr (inB a) w w' ∧ (∀ k, inB a' k → inB a k ∨ w.heap.size ≤ k) := by
  have fr : ∀ w', w.grownBy w' (Value.ownBlock (.slice a l c)) → Fr (inB a) w w' := fun w' hg => ⟨hg.os, hg.tape, hg.output, hg.size, fun k hk hn => hg.block k hk fun e => hn (by
    cases a with
    | none => simp [Value.ownBlock] at e
    | some ad => simp [Value.ownBlock] at e; exact ⟨ad, rfl, e.symm⟩)⟩
  rcases h.cases with ⟨rfl, rfl, rfl⟩ | ⟨g', cur', rfl, k2, k3, k4, k5, k6, k7⟩
  · obtain rfl : xs = [] := by have := h.length; simpa using this
    obtain ⟨v', w', hr, ho, hg, hnil⟩ := Lib.run_append_own_string (P := P) w w.heap.size t u ty e inf E.ht hu E.hi E.hz E.hsize E.hby (.slice none 0 0) 0 [] (World.ownsRow_nil w _ e 1) s (by unfold maxLen; omega) hb (Nat.le_refl _)
    rcases ho.2 with ⟨rfl, h0⟩ | ⟨g, cap, cur, rfl, h2, h3, h4, h5, h6, h7⟩
    · rw [h0] at ho
      exact ⟨none, 0, 0, w', hr, by omega, ⟨ho.1, .inl ⟨rfl, rfl⟩⟩, fr w' hg, fun k ⟨ad, e, _⟩ => by cases e⟩
    · exact ⟨_, _, _, w', hr, rfl, ⟨ho.1, .inr ⟨g, cap, cur, rfl, by omega, h3, h4, h5, h6, h7⟩⟩, fr w' hg, fun k ⟨ad, e, hk⟩ => by
        cases e
        simp only at hk
        subst hk
        exact .inr h2⟩
  · obtain ⟨v', w', hr, ho, hg, hnil⟩ := Lib.run_append_own_string (P := P) w base t u ty e inf E.ht hu E.hi E.hz E.hsize E.hby _ l xs h s (by unfold maxLen; omega) hb hbase
    rcases ho.2 with ⟨rfl, h0⟩ | ⟨g, cap, cur, rfl, h2, h3, h4, h5, h6, h7⟩
    · rw [h0] at ho
      exact ⟨none, 0, 0, w', hr, by omega, ⟨ho.1, .inl ⟨rfl, rfl⟩⟩, fr w' hg, fun k ⟨ad, e, _⟩ => by cases e⟩
    · refine ⟨_, _, _, w', hr, rfl, ho, fr w' hg, fun k ⟨ad, e, hk⟩ => ?_⟩
      cases e
      simp only at hk
      subst hk
      by_cases hroom : l + s.size ≤ c
      · have hr2 := Lib.run_append_room_string (P := P) w t u ty e inf E.ht hu E.hi E.hsize g' l c cur' k3 s hroom (by rw [Nat.mul_one] at k6; omega)
        rw [hr] at hr2
        simp only [Result.ok.injEq, Value.slice.injEq, Option.some.injEq, Addr.mk.injEq] at hr2
        exact .inl ⟨_, rfl, hr2.1.1.1.symm⟩
      · have hr2 := Lib.run_append_grow_string (P := P) w t u ty e inf _ E.ht hu E.hi E.hz ⟨g', 0, none⟩ l c xs (by rw [E.hsize]; exact h.length) (fun j v hj => h.rd.at hj) s (by omega) (by omega) (growslice_fits (by omega) (by rw [E.hby]; omega))
        rw [hr] at hr2
        simp only [Result.ok.injEq, Value.slice.injEq, Option.some.injEq, Addr.mk.injEq] at hr2
        exact .inr (by omega)
theorem Hs.appendT (E : ElemT P t e 1 1 (.int .u8 0) inf) (hu : P.underlying u = some .string) (h : Hs W L w) (i : Nat) (hi : L[i]? = some (slP e 1 a l c xs)) {s : ByteArray} (hb : l + s.size ≤ 140737488355328)
    {K : Option Addr → Nat → Nat → World → Prop} (hk : ∀ a' c' w', Hs W (L.set i (slP e 1 a' (l + s.size) c' (xs ++ Lib.strCells s))) w' → K a' (l + s.size) c' w') :
    ∃ a' l' c' w', Sem.run P (Builtin.append_ #[t, u] ty #[.slice a l c, .string s]) w = .ok (.slice a' l' c') w' ∧ K a' l' c' w' := by
  obtain ⟨a', l', c', w', hr, rfl, ho, hf, hs⟩ := append_str_own (ty := ty) E hu (h.own i hi) hb h.size
  exact ⟨a', _, c', w', hr, hk a' c' w' (h.slice i hi ho hf hs)⟩
end
end Go.Sh
