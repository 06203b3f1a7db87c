/- Own text: part of the shallow reading of the code and of the contracts that are proved over it. -/
import Derived.Test.YtilenpnpnbdndaaGreatDoorShDf
import Derived.Test.YtilenpnpnbdndaaGreatDoorShO
import Derived.Lib.AppendStr
import Derived.Test.YtilenpnpnbdndaaGreatDoorRtO
import Derived.Test.YtilenpnpnbdndaaGreatDoorShS
import Derived.ProofKit
import Derived.OpenShut
namespace Go.Proofs.YtilenpnpnbdndaaGreatDoor
open Go Go.Sh
set_option maxRecDepth 100000
structure R58 where
 f0 : Int
 f1 : Int
 f2 : Int
 f3 : Int
 f4 : Int
 f5 : Int
 f6 : Int
 f7 : Int
 f8 : Int
 f9 : Int
 f10 : Int
 f11 : Int
 f12 : Int
 f13 : Int
 f14 : Int
 f15 : Int
 f16 : Int
 f17 : Int
 f18 : Int
 f19 : Int
 f20 : Int
 f21 : Int
 f22 : Int
 f23 : Int
 f24 : Int
 f25 : Int
 f26 : Int
 f27 : Int
 f28 : Int
 f29 : Int
 f30 : Int
 f31 : Int
 f32 : Int
 f33 : Int
 f34 : Int
 f35 : Int
 f36 : Int
 f37 : Int
 f38 : Bool
 f39 : Bool
 f40 : Bool
 f41 : Int
 f42 : Int
 f43 : Int
 f44 : Int
 f45 : Int
 f46 : Int
 f47 : Int
 f48 : Int
 f49 : Int
 f50 : Int
 f51 : Int
 f52 : Int
 f53 : Int
 f54 : Int
 f55 : Int
 f56 : Int
 f57 : Int
 f58 : Int
 f59 : Int
 f60 : Int
 f61 : Int
 f62 : Int
 f63 : Int
 f64 : Int
 f65 : Int
 f66 : Int
 f67 : Int
 f68 : Int
 f69 : Int
 f70 : Int
 f71 : Int
 f72 : Int
 f73 : Int
 f74 : Int
 f75 : Int
 f76 : Int
 f77 : Int
 f78 : Int
 f79 : Bool
 f80 : Bool
 f81 : Bool
def R58.l (s : R58) : List Value := [.int .u8 s.f0,.int .u8 s.f1,.int .u8 s.f2,.int .u8 s.f3,.int .u8 s.f4,.int .u8 s.f5,.int .u8 s.f6,.int .u8 s.f7,.int .u8 s.f8,.int .u8 s.f9,.int .u8 s.f10,.int .u8 s.f11,.int .u8 s.f12,.int .u8 s.f13,.int .u8 s.f14,.int .u8 s.f15,.int .u64 s.f16,.int .i64 s.f17,.int .u32 s.f18,.int .u16 s.f19,.int .u16 s.f20,.int .i64 s.f21,.int .i64 s.f22,.int .u16 s.f23,.int .u16 s.f24,.int .i64 s.f25,.int .i64 s.f26,.int .i64 s.f27,.int .i64 s.f28,.int .i64 s.f29,.int .i64 s.f30,.int .i64 s.f31,.int .i64 s.f32,.int .i64 s.f33,.int .i64 s.f34,.int .i64 s.f35,.int .i64 s.f36,.int .i64 s.f37,.bool s.f38,.bool s.f39,.bool s.f40,.int .u8 s.f41,.int .u8 s.f42,.int .u8 s.f43,.int .u8 s.f44,.int .u8 s.f45,.int .u8 s.f46,.int .u8 s.f47,.int .u8 s.f48,.int .u8 s.f49,.int .u8 s.f50,.int .u8 s.f51,.int .u8 s.f52,.int .u8 s.f53,.int .u8 s.f54,.int .u8 s.f55,.int .u8 s.f56,.int .u64 s.f57,.int .i64 s.f58,.int .u32 s.f59,.int .u16 s.f60,.int .u16 s.f61,.int .i64 s.f62,.int .i64 s.f63,.int .u16 s.f64,.int .u16 s.f65,.int .i64 s.f66,.int .i64 s.f67,.int .i64 s.f68,.int .i64 s.f69,.int .i64 s.f70,.int .i64 s.f71,.int .i64 s.f72,.int .i64 s.f73,.int .i64 s.f74,.int .i64 s.f75,.int .i64 s.f76,.int .i64 s.f77,.int .i64 s.f78,.bool s.f79,.bool s.f80,.bool s.f81]
def R58.c (s : R58) : Array Value := #[.int .u8 s.f0,.int .u8 s.f1,.int .u8 s.f2,.int .u8 s.f3,.int .u8 s.f4,.int .u8 s.f5,.int .u8 s.f6,.int .u8 s.f7,.int .u8 s.f8,.int .u8 s.f9,.int .u8 s.f10,.int .u8 s.f11,.int .u8 s.f12,.int .u8 s.f13,.int .u8 s.f14,.int .u8 s.f15,.int .u64 s.f16,.int .i64 s.f17,.int .u32 s.f18,.int .u16 s.f19,.int .u16 s.f20,.int .i64 s.f21,.int .i64 s.f22,.int .u16 s.f23,.int .u16 s.f24,.int .i64 s.f25,.int .i64 s.f26,.int .i64 s.f27,.int .i64 s.f28,.int .i64 s.f29,.int .i64 s.f30,.int .i64 s.f31,.int .i64 s.f32,.int .i64 s.f33,.int .i64 s.f34,.int .i64 s.f35,.int .i64 s.f36,.int .i64 s.f37,.bool s.f38,.bool s.f39,.bool s.f40,.int .u8 s.f41,.int .u8 s.f42,.int .u8 s.f43,.int .u8 s.f44,.int .u8 s.f45,.int .u8 s.f46,.int .u8 s.f47,.int .u8 s.f48,.int .u8 s.f49,.int .u8 s.f50,.int .u8 s.f51,.int .u8 s.f52,.int .u8 s.f53,.int .u8 s.f54,.int .u8 s.f55,.int .u8 s.f56,.int .u64 s.f57,.int .i64 s.f58,.int .u32 s.f59,.int .u16 s.f60,.int .u16 s.f61,.int .i64 s.f62,.int .i64 s.f63,.int .u16 s.f64,.int .u16 s.f65,.int .i64 s.f66,.int .i64 s.f67,.int .i64 s.f68,.int .i64 s.f69,.int .i64 s.f70,.int .i64 s.f71,.int .i64 s.f72,.int .i64 s.f73,.int .i64 s.f74,.int .i64 s.f75,.int .i64 s.f76,.int .i64 s.f77,.int .i64 s.f78,.bool s.f79,.bool s.f80,.bool s.f81]
def R58.v (s : R58) : Value := .agg #[.int .u8 s.f0,.int .u8 s.f1,.int .u8 s.f2,.int .u8 s.f3,.int .u8 s.f4,.int .u8 s.f5,.int .u8 s.f6,.int .u8 s.f7,.int .u8 s.f8,.int .u8 s.f9,.int .u8 s.f10,.int .u8 s.f11,.int .u8 s.f12,.int .u8 s.f13,.int .u8 s.f14,.int .u8 s.f15,.int .u64 s.f16,.int .i64 s.f17,.int .u32 s.f18,.int .u16 s.f19,.int .u16 s.f20,.int .i64 s.f21,.int .i64 s.f22,.int .u16 s.f23,.int .u16 s.f24,.int .i64 s.f25,.int .i64 s.f26,.int .i64 s.f27,.int .i64 s.f28,.int .i64 s.f29,.int .i64 s.f30,.int .i64 s.f31,.int .i64 s.f32,.int .i64 s.f33,.int .i64 s.f34,.int .i64 s.f35,.int .i64 s.f36,.int .i64 s.f37,.bool s.f38,.bool s.f39,.bool s.f40,.int .u8 s.f41,.int .u8 s.f42,.int .u8 s.f43,.int .u8 s.f44,.int .u8 s.f45,.int .u8 s.f46,.int .u8 s.f47,.int .u8 s.f48,.int .u8 s.f49,.int .u8 s.f50,.int .u8 s.f51,.int .u8 s.f52,.int .u8 s.f53,.int .u8 s.f54,.int .u8 s.f55,.int .u8 s.f56,.int .u64 s.f57,.int .i64 s.f58,.int .u32 s.f59,.int .u16 s.f60,.int .u16 s.f61,.int .i64 s.f62,.int .i64 s.f63,.int .u16 s.f64,.int .u16 s.f65,.int .i64 s.f66,.int .i64 s.f67,.int .i64 s.f68,.int .i64 s.f69,.int .i64 s.f70,.int .i64 s.f71,.int .i64 s.f72,.int .i64 s.f73,.int .i64 s.f74,.int .i64 s.f75,.int .i64 s.f76,.int .i64 s.f77,.int .i64 s.f78,.bool s.f79,.bool s.f80,.bool s.f81]
def ldR58 (a : Addr) (w : World) (K : R58 -> Prop) : Prop := ldI .u8 (a.add 0) w fun f0 => ldI .u8 (a.add 1) w fun f1 => ldI .u8 (a.add 2) w fun f2 => ldI .u8 (a.add 3) w fun f3 => ldI .u8 (a.add 4) w fun f4 => ldI .u8 (a.add 5) w fun f5 => ldI .u8 (a.add 6) w fun f6 => ldI .u8 (a.add 7) w fun f7 => ldI .u8 (a.add 8) w fun f8 => ldI .u8 (a.add 9) w fun f9 => ldI .u8 (a.add 10) w fun f10 => ldI .u8 (a.add 11) w fun f11 => ldI .u8 (a.add 12) w fun f12 => ldI .u8 (a.add 13) w fun f13 => ldI .u8 (a.add 14) w fun f14 => ldI .u8 (a.add 15) w fun f15 => ldI .u64 (a.add 16) w fun f16 => ldI .i64 (a.add 17) w fun f17 => ldI .u32 (a.add 18) w fun f18 => ldI .u16 (a.add 19) w fun f19 => ldI .u16 (a.add 20) w fun f20 => ldI .i64 (a.add 21) w fun f21 => ldI .i64 (a.add 22) w fun f22 => ldI .u16 (a.add 23) w fun f23 => ldI .u16 (a.add 24) w fun f24 => ldI .i64 (a.add 25) w fun f25 => ldI .i64 (a.add 26) w fun f26 => ldI .i64 (a.add 27) w fun f27 => ldI .i64 (a.add 28) w fun f28 => ldI .i64 (a.add 29) w fun f29 => ldI .i64 (a.add 30) w fun f30 => ldI .i64 (a.add 31) w fun f31 => ldI .i64 (a.add 32) w fun f32 => ldI .i64 (a.add 33) w fun f33 => ldI .i64 (a.add 34) w fun f34 => ldI .i64 (a.add 35) w fun f35 => ldI .i64 (a.add 36) w fun f36 => ldI .i64 (a.add 37) w fun f37 => ldB (a.add 38) w fun f38 => ldB (a.add 39) w fun f39 => ldB (a.add 40) w fun f40 => ldI .u8 (a.add 41) w fun f41 => ldI .u8 (a.add 42) w fun f42 => ldI .u8 (a.add 43) w fun f43 => ldI .u8 (a.add 44) w fun f44 => ldI .u8 (a.add 45) w fun f45 => ldI .u8 (a.add 46) w fun f46 => ldI .u8 (a.add 47) w fun f47 => ldI .u8 (a.add 48) w fun f48 => ldI .u8 (a.add 49) w fun f49 => ldI .u8 (a.add 50) w fun f50 => ldI .u8 (a.add 51) w fun f51 => ldI .u8 (a.add 52) w fun f52 => ldI .u8 (a.add 53) w fun f53 => ldI .u8 (a.add 54) w fun f54 => ldI .u8 (a.add 55) w fun f55 => ldI .u8 (a.add 56) w fun f56 => ldI .u64 (a.add 57) w fun f57 => ldI .i64 (a.add 58) w fun f58 => ldI .u32 (a.add 59) w fun f59 => ldI .u16 (a.add 60) w fun f60 => ldI .u16 (a.add 61) w fun f61 => ldI .i64 (a.add 62) w fun f62 => ldI .i64 (a.add 63) w fun f63 => ldI .u16 (a.add 64) w fun f64 => ldI .u16 (a.add 65) w fun f65 => ldI .i64 (a.add 66) w fun f66 => ldI .i64 (a.add 67) w fun f67 => ldI .i64 (a.add 68) w fun f68 => ldI .i64 (a.add 69) w fun f69 => ldI .i64 (a.add 70) w fun f70 => ldI .i64 (a.add 71) w fun f71 => ldI .i64 (a.add 72) w fun f72 => ldI .i64 (a.add 73) w fun f73 => ldI .i64 (a.add 74) w fun f74 => ldI .i64 (a.add 75) w fun f75 => ldI .i64 (a.add 76) w fun f76 => ldI .i64 (a.add 77) w fun f77 => ldI .i64 (a.add 78) w fun f78 => ldB (a.add 79) w fun f79 => ldB (a.add 80) w fun f80 => ldB (a.add 81) w fun f81 => K ⟨f0,f1,f2,f3,f4,f5,f6,f7,f8,f9,f10,f11,f12,f13,f14,f15,f16,f17,f18,f19,f20,f21,f22,f23,f24,f25,f26,f27,f28,f29,f30,f31,f32,f33,f34,f35,f36,f37,f38,f39,f40,f41,f42,f43,f44,f45,f46,f47,f48,f49,f50,f51,f52,f53,f54,f55,f56,f57,f58,f59,f60,f61,f62,f63,f64,f65,f66,f67,f68,f69,f70,f71,f72,f73,f74,f75,f76,f77,f78,f79,f80,f81⟩
def exR58 (K : R58 -> Prop) : Prop := ∃ f0 f1 f2 f3 f4 f5 f6 f7 f8 f9 f10 f11 f12 f13 f14 f15 f16 f17 f18 f19 f20 f21 f22 f23 f24 f25 f26 f27 f28 f29 f30 f31 f32 f33 f34 f35 f36 f37 f38 f39 f40 f41 f42 f43 f44 f45 f46 f47 f48 f49 f50 f51 f52 f53 f54 f55 f56 f57 f58 f59 f60 f61 f62 f63 f64 f65 f66 f67 f68 f69 f70 f71 f72 f73 f74 f75 f76 f77 f78 f79 f80 f81,K ⟨f0,f1,f2,f3,f4,f5,f6,f7,f8,f9,f10,f11,f12,f13,f14,f15,f16,f17,f18,f19,f20,f21,f22,f23,f24,f25,f26,f27,f28,f29,f30,f31,f32,f33,f34,f35,f36,f37,f38,f39,f40,f41,f42,f43,f44,f45,f46,f47,f48,f49,f50,f51,f52,f53,f54,f55,f56,f57,f58,f59,f60,f61,f62,f63,f64,f65,f66,f67,f68,f69,f70,f71,f72,f73,f74,f75,f76,f77,f78,f79,f80,f81⟩
theorem exR58_of {K : R58 -> Prop} (s : R58) (k : K s) : exR58 K := ⟨s.f0,s.f1,s.f2,s.f3,s.f4,s.f5,s.f6,s.f7,s.f8,s.f9,s.f10,s.f11,s.f12,s.f13,s.f14,s.f15,s.f16,s.f17,s.f18,s.f19,s.f20,s.f21,s.f22,s.f23,s.f24,s.f25,s.f26,s.f27,s.f28,s.f29,s.f30,s.f31,s.f32,s.f33,s.f34,s.f35,s.f36,s.f37,s.f38,s.f39,s.f40,s.f41,s.f42,s.f43,s.f44,s.f45,s.f46,s.f47,s.f48,s.f49,s.f50,s.f51,s.f52,s.f53,s.f54,s.f55,s.f56,s.f57,s.f58,s.f59,s.f60,s.f61,s.f62,s.f63,s.f64,s.f65,s.f66,s.f67,s.f68,s.f69,s.f70,s.f71,s.f72,s.f73,s.f74,s.f75,s.f76,s.f77,s.f78,s.f79,s.f80,s.f81,k⟩
theorem ldR58_of {a : Addr} {w : World} {s : R58} {K : R58 -> Prop} (h : At w a s.l) (k : K s) : ldR58 a w K := (ldI_c (h 0 _ rfl) (ldI_c (h 1 _ rfl) (ldI_c (h 2 _ rfl) (ldI_c (h 3 _ rfl) (ldI_c (h 4 _ rfl) (ldI_c (h 5 _ rfl) (ldI_c (h 6 _ rfl) (ldI_c (h 7 _ rfl) (ldI_c (h 8 _ rfl) (ldI_c (h 9 _ rfl) (ldI_c (h 10 _ rfl) (ldI_c (h 11 _ rfl) (ldI_c (h 12 _ rfl) (ldI_c (h 13 _ rfl) (ldI_c (h 14 _ rfl) (ldI_c (h 15 _ rfl) (ldI_c (h 16 _ rfl) (ldI_c (h 17 _ rfl) (ldI_c (h 18 _ rfl) (ldI_c (h 19 _ rfl) (ldI_c (h 20 _ rfl) (ldI_c (h 21 _ rfl) (ldI_c (h 22 _ rfl) (ldI_c (h 23 _ rfl) (ldI_c (h 24 _ rfl) (ldI_c (h 25 _ rfl) (ldI_c (h 26 _ rfl) (ldI_c (h 27 _ rfl) (ldI_c (h 28 _ rfl) (ldI_c (h 29 _ rfl) (ldI_c (h 30 _ rfl) (ldI_c (h 31 _ rfl) (ldI_c (h 32 _ rfl) (ldI_c (h 33 _ rfl) (ldI_c (h 34 _ rfl) (ldI_c (h 35 _ rfl) (ldI_c (h 36 _ rfl) (ldI_c (h 37 _ rfl) (ldB_c (h 38 _ rfl) (ldB_c (h 39 _ rfl) (ldB_c (h 40 _ rfl) (ldI_c (h 41 _ rfl) (ldI_c (h 42 _ rfl) (ldI_c (h 43 _ rfl) (ldI_c (h 44 _ rfl) (ldI_c (h 45 _ rfl) (ldI_c (h 46 _ rfl) (ldI_c (h 47 _ rfl) (ldI_c (h 48 _ rfl) (ldI_c (h 49 _ rfl) (ldI_c (h 50 _ rfl) (ldI_c (h 51 _ rfl) (ldI_c (h 52 _ rfl) (ldI_c (h 53 _ rfl) (ldI_c (h 54 _ rfl) (ldI_c (h 55 _ rfl) (ldI_c (h 56 _ rfl) (ldI_c (h 57 _ rfl) (ldI_c (h 58 _ rfl) (ldI_c (h 59 _ rfl) (ldI_c (h 60 _ rfl) (ldI_c (h 61 _ rfl) (ldI_c (h 62 _ rfl) (ldI_c (h 63 _ rfl) (ldI_c (h 64 _ rfl) (ldI_c (h 65 _ rfl) (ldI_c (h 66 _ rfl) (ldI_c (h 67 _ rfl) (ldI_c (h 68 _ rfl) (ldI_c (h 69 _ rfl) (ldI_c (h 70 _ rfl) (ldI_c (h 71 _ rfl) (ldI_c (h 72 _ rfl) (ldI_c (h 73 _ rfl) (ldI_c (h 74 _ rfl) (ldI_c (h 75 _ rfl) (ldI_c (h 76 _ rfl) (ldI_c (h 77 _ rfl) (ldI_c (h 78 _ rfl) (ldB_c (h 79 _ rfl) (ldB_c (h 80 _ rfl) (ldB_c (h 81 _ rfl) k))))))))))))))))))))))))))))))))))))))))))))))))))))))))))))))))))))))))))))))))))
def R58.z : R58 := ⟨0,0,0,0,0,0,0,0,0,0,0,0,0,0,0,0,0,0,0,0,0,0,0,0,0,0,0,0,0,0,0,0,0,0,0,0,0,0,false,false,false,0,0,0,0,0,0,0,0,0,0,0,0,0,0,0,0,0,0,0,0,0,0,0,0,0,0,0,0,0,0,0,0,0,0,0,0,0,0,false,false,false⟩
theorem R58.c_size (s : R58) : s.c.size = 82 := rfl
theorem R58.l_len (s : R58) : s.l.length = 82 := rfl
structure R60 where
 f0 : Int
 f1 : Int
 f2 : Int
 f3 : Int
 f4 : Int
 f5 : Int
 f6 : Int
 f7 : Int
 f8 : Int
 f9 : Int
 f10 : Int
 f11 : Int
 f12 : Int
 f13 : Int
 f14 : Int
 f15 : Int
 f16 : Int
 f17 : Int
 f18 : Int
 f19 : Int
 f20 : Int
 f21 : Int
 f22 : Int
 f23 : Int
 f24 : Int
 f25 : Int
 f26 : Int
 f27 : Int
 f28 : Int
 f29 : Int
 f30 : Int
 f31 : Int
 f32 : Int
 f33 : Int
 f34 : Int
 f35 : Int
 f36 : Int
 f37 : Int
 f38 : Bool
 f39 : Bool
 f40 : Bool
 f41 : Int
 f42 : Int
 f43 : Int
 f44 : Int
 f45 : Int
 f46 : Int
 f47 : Int
 f48 : Int
 f49 : Int
 f50 : Int
 f51 : Int
 f52 : Int
 f53 : Int
 f54 : Int
 f55 : Int
 f56 : Int
 f57 : Int
 f58 : Int
 f59 : Int
 f60 : Int
 f61 : Int
 f62 : Int
 f63 : Int
 f64 : Int
 f65 : Int
 f66 : Int
 f67 : Int
 f68 : Int
 f69 : Int
 f70 : Int
 f71 : Int
 f72 : Int
 f73 : Int
 f74 : Int
 f75 : Int
 f76 : Int
 f77 : Int
 f78 : Int
 f79 : Bool
 f80 : Bool
 f81 : Bool
 f82a : Option Addr
 f82n : Nat
 f82c : Nat
def R60.l (s : R60) : List Value := [.int .u8 s.f0,.int .u8 s.f1,.int .u8 s.f2,.int .u8 s.f3,.int .u8 s.f4,.int .u8 s.f5,.int .u8 s.f6,.int .u8 s.f7,.int .u8 s.f8,.int .u8 s.f9,.int .u8 s.f10,.int .u8 s.f11,.int .u8 s.f12,.int .u8 s.f13,.int .u8 s.f14,.int .u8 s.f15,.int .u64 s.f16,.int .i64 s.f17,.int .u32 s.f18,.int .u16 s.f19,.int .u16 s.f20,.int .i64 s.f21,.int .i64 s.f22,.int .u16 s.f23,.int .u16 s.f24,.int .i64 s.f25,.int .i64 s.f26,.int .i64 s.f27,.int .i64 s.f28,.int .i64 s.f29,.int .i64 s.f30,.int .i64 s.f31,.int .i64 s.f32,.int .i64 s.f33,.int .i64 s.f34,.int .i64 s.f35,.int .i64 s.f36,.int .i64 s.f37,.bool s.f38,.bool s.f39,.bool s.f40,.int .u8 s.f41,.int .u8 s.f42,.int .u8 s.f43,.int .u8 s.f44,.int .u8 s.f45,.int .u8 s.f46,.int .u8 s.f47,.int .u8 s.f48,.int .u8 s.f49,.int .u8 s.f50,.int .u8 s.f51,.int .u8 s.f52,.int .u8 s.f53,.int .u8 s.f54,.int .u8 s.f55,.int .u8 s.f56,.int .u64 s.f57,.int .i64 s.f58,.int .u32 s.f59,.int .u16 s.f60,.int .u16 s.f61,.int .i64 s.f62,.int .i64 s.f63,.int .u16 s.f64,.int .u16 s.f65,.int .i64 s.f66,.int .i64 s.f67,.int .i64 s.f68,.int .i64 s.f69,.int .i64 s.f70,.int .i64 s.f71,.int .i64 s.f72,.int .i64 s.f73,.int .i64 s.f74,.int .i64 s.f75,.int .i64 s.f76,.int .i64 s.f77,.int .i64 s.f78,.bool s.f79,.bool s.f80,.bool s.f81,.slice s.f82a s.f82n s.f82c]
def R60.c (s : R60) : Array Value := #[.int .u8 s.f0,.int .u8 s.f1,.int .u8 s.f2,.int .u8 s.f3,.int .u8 s.f4,.int .u8 s.f5,.int .u8 s.f6,.int .u8 s.f7,.int .u8 s.f8,.int .u8 s.f9,.int .u8 s.f10,.int .u8 s.f11,.int .u8 s.f12,.int .u8 s.f13,.int .u8 s.f14,.int .u8 s.f15,.int .u64 s.f16,.int .i64 s.f17,.int .u32 s.f18,.int .u16 s.f19,.int .u16 s.f20,.int .i64 s.f21,.int .i64 s.f22,.int .u16 s.f23,.int .u16 s.f24,.int .i64 s.f25,.int .i64 s.f26,.int .i64 s.f27,.int .i64 s.f28,.int .i64 s.f29,.int .i64 s.f30,.int .i64 s.f31,.int .i64 s.f32,.int .i64 s.f33,.int .i64 s.f34,.int .i64 s.f35,.int .i64 s.f36,.int .i64 s.f37,.bool s.f38,.bool s.f39,.bool s.f40,.int .u8 s.f41,.int .u8 s.f42,.int .u8 s.f43,.int .u8 s.f44,.int .u8 s.f45,.int .u8 s.f46,.int .u8 s.f47,.int .u8 s.f48,.int .u8 s.f49,.int .u8 s.f50,.int .u8 s.f51,.int .u8 s.f52,.int .u8 s.f53,.int .u8 s.f54,.int .u8 s.f55,.int .u8 s.f56,.int .u64 s.f57,.int .i64 s.f58,.int .u32 s.f59,.int .u16 s.f60,.int .u16 s.f61,.int .i64 s.f62,.int .i64 s.f63,.int .u16 s.f64,.int .u16 s.f65,.int .i64 s.f66,.int .i64 s.f67,.int .i64 s.f68,.int .i64 s.f69,.int .i64 s.f70,.int .i64 s.f71,.int .i64 s.f72,.int .i64 s.f73,.int .i64 s.f74,.int .i64 s.f75,.int .i64 s.f76,.int .i64 s.f77,.int .i64 s.f78,.bool s.f79,.bool s.f80,.bool s.f81,.slice s.f82a s.f82n s.f82c]
def R60.v (s : R60) : Value := .agg #[.int .u8 s.f0,.int .u8 s.f1,.int .u8 s.f2,.int .u8 s.f3,.int .u8 s.f4,.int .u8 s.f5,.int .u8 s.f6,.int .u8 s.f7,.int .u8 s.f8,.int .u8 s.f9,.int .u8 s.f10,.int .u8 s.f11,.int .u8 s.f12,.int .u8 s.f13,.int .u8 s.f14,.int .u8 s.f15,.int .u64 s.f16,.int .i64 s.f17,.int .u32 s.f18,.int .u16 s.f19,.int .u16 s.f20,.int .i64 s.f21,.int .i64 s.f22,.int .u16 s.f23,.int .u16 s.f24,.int .i64 s.f25,.int .i64 s.f26,.int .i64 s.f27,.int .i64 s.f28,.int .i64 s.f29,.int .i64 s.f30,.int .i64 s.f31,.int .i64 s.f32,.int .i64 s.f33,.int .i64 s.f34,.int .i64 s.f35,.int .i64 s.f36,.int .i64 s.f37,.bool s.f38,.bool s.f39,.bool s.f40,.int .u8 s.f41,.int .u8 s.f42,.int .u8 s.f43,.int .u8 s.f44,.int .u8 s.f45,.int .u8 s.f46,.int .u8 s.f47,.int .u8 s.f48,.int .u8 s.f49,.int .u8 s.f50,.int .u8 s.f51,.int .u8 s.f52,.int .u8 s.f53,.int .u8 s.f54,.int .u8 s.f55,.int .u8 s.f56,.int .u64 s.f57,.int .i64 s.f58,.int .u32 s.f59,.int .u16 s.f60,.int .u16 s.f61,.int .i64 s.f62,.int .i64 s.f63,.int .u16 s.f64,.int .u16 s.f65,.int .i64 s.f66,.int .i64 s.f67,.int .i64 s.f68,.int .i64 s.f69,.int .i64 s.f70,.int .i64 s.f71,.int .i64 s.f72,.int .i64 s.f73,.int .i64 s.f74,.int .i64 s.f75,.int .i64 s.f76,.int .i64 s.f77,.int .i64 s.f78,.bool s.f79,.bool s.f80,.bool s.f81,.slice s.f82a s.f82n s.f82c]
def ldR60 (a : Addr) (w : World) (K : R60 -> Prop) : Prop := ldI .u8 (a.add 0) w fun f0 => ldI .u8 (a.add 1) w fun f1 => ldI .u8 (a.add 2) w fun f2 => ldI .u8 (a.add 3) w fun f3 => ldI .u8 (a.add 4) w fun f4 => ldI .u8 (a.add 5) w fun f5 => ldI .u8 (a.add 6) w fun f6 => ldI .u8 (a.add 7) w fun f7 => ldI .u8 (a.add 8) w fun f8 => ldI .u8 (a.add 9) w fun f9 => ldI .u8 (a.add 10) w fun f10 => ldI .u8 (a.add 11) w fun f11 => ldI .u8 (a.add 12) w fun f12 => ldI .u8 (a.add 13) w fun f13 => ldI .u8 (a.add 14) w fun f14 => ldI .u8 (a.add 15) w fun f15 => ldI .u64 (a.add 16) w fun f16 => ldI .i64 (a.add 17) w fun f17 => ldI .u32 (a.add 18) w fun f18 => ldI .u16 (a.add 19) w fun f19 => ldI .u16 (a.add 20) w fun f20 => ldI .i64 (a.add 21) w fun f21 => ldI .i64 (a.add 22) w fun f22 => ldI .u16 (a.add 23) w fun f23 => ldI .u16 (a.add 24) w fun f24 => ldI .i64 (a.add 25) w fun f25 => ldI .i64 (a.add 26) w fun f26 => ldI .i64 (a.add 27) w fun f27 => ldI .i64 (a.add 28) w fun f28 => ldI .i64 (a.add 29) w fun f29 => ldI .i64 (a.add 30) w fun f30 => ldI .i64 (a.add 31) w fun f31 => ldI .i64 (a.add 32) w fun f32 => ldI .i64 (a.add 33) w fun f33 => ldI .i64 (a.add 34) w fun f34 => ldI .i64 (a.add 35) w fun f35 => ldI .i64 (a.add 36) w fun f36 => ldI .i64 (a.add 37) w fun f37 => ldB (a.add 38) w fun f38 => ldB (a.add 39) w fun f39 => ldB (a.add 40) w fun f40 => ldI .u8 (a.add 41) w fun f41 => ldI .u8 (a.add 42) w fun f42 => ldI .u8 (a.add 43) w fun f43 => ldI .u8 (a.add 44) w fun f44 => ldI .u8 (a.add 45) w fun f45 => ldI .u8 (a.add 46) w fun f46 => ldI .u8 (a.add 47) w fun f47 => ldI .u8 (a.add 48) w fun f48 => ldI .u8 (a.add 49) w fun f49 => ldI .u8 (a.add 50) w fun f50 => ldI .u8 (a.add 51) w fun f51 => ldI .u8 (a.add 52) w fun f52 => ldI .u8 (a.add 53) w fun f53 => ldI .u8 (a.add 54) w fun f54 => ldI .u8 (a.add 55) w fun f55 => ldI .u8 (a.add 56) w fun f56 => ldI .u64 (a.add 57) w fun f57 => ldI .i64 (a.add 58) w fun f58 => ldI .u32 (a.add 59) w fun f59 => ldI .u16 (a.add 60) w fun f60 => ldI .u16 (a.add 61) w fun f61 => ldI .i64 (a.add 62) w fun f62 => ldI .i64 (a.add 63) w fun f63 => ldI .u16 (a.add 64) w fun f64 => ldI .u16 (a.add 65) w fun f65 => ldI .i64 (a.add 66) w fun f66 => ldI .i64 (a.add 67) w fun f67 => ldI .i64 (a.add 68) w fun f68 => ldI .i64 (a.add 69) w fun f69 => ldI .i64 (a.add 70) w fun f70 => ldI .i64 (a.add 71) w fun f71 => ldI .i64 (a.add 72) w fun f72 => ldI .i64 (a.add 73) w fun f73 => ldI .i64 (a.add 74) w fun f74 => ldI .i64 (a.add 75) w fun f75 => ldI .i64 (a.add 76) w fun f76 => ldI .i64 (a.add 77) w fun f77 => ldI .i64 (a.add 78) w fun f78 => ldB (a.add 79) w fun f79 => ldB (a.add 80) w fun f80 => ldB (a.add 81) w fun f81 => ldC (a.add 82) w fun f82a f82n f82c => K ⟨f0,f1,f2,f3,f4,f5,f6,f7,f8,f9,f10,f11,f12,f13,f14,f15,f16,f17,f18,f19,f20,f21,f22,f23,f24,f25,f26,f27,f28,f29,f30,f31,f32,f33,f34,f35,f36,f37,f38,f39,f40,f41,f42,f43,f44,f45,f46,f47,f48,f49,f50,f51,f52,f53,f54,f55,f56,f57,f58,f59,f60,f61,f62,f63,f64,f65,f66,f67,f68,f69,f70,f71,f72,f73,f74,f75,f76,f77,f78,f79,f80,f81,f82a,f82n,f82c⟩
def exR60 (K : R60 -> Prop) : Prop := ∃ f0 f1 f2 f3 f4 f5 f6 f7 f8 f9 f10 f11 f12 f13 f14 f15 f16 f17 f18 f19 f20 f21 f22 f23 f24 f25 f26 f27 f28 f29 f30 f31 f32 f33 f34 f35 f36 f37 f38 f39 f40 f41 f42 f43 f44 f45 f46 f47 f48 f49 f50 f51 f52 f53 f54 f55 f56 f57 f58 f59 f60 f61 f62 f63 f64 f65 f66 f67 f68 f69 f70 f71 f72 f73 f74 f75 f76 f77 f78 f79 f80 f81 f82a f82n f82c,K ⟨f0,f1,f2,f3,f4,f5,f6,f7,f8,f9,f10,f11,f12,f13,f14,f15,f16,f17,f18,f19,f20,f21,f22,f23,f24,f25,f26,f27,f28,f29,f30,f31,f32,f33,f34,f35,f36,f37,f38,f39,f40,f41,f42,f43,f44,f45,f46,f47,f48,f49,f50,f51,f52,f53,f54,f55,f56,f57,f58,f59,f60,f61,f62,f63,f64,f65,f66,f67,f68,f69,f70,f71,f72,f73,f74,f75,f76,f77,f78,f79,f80,f81,f82a,f82n,f82c⟩
theorem exR60_of {K : R60 -> Prop} (s : R60) (k : K s) : exR60 K := ⟨s.f0,s.f1,s.f2,s.f3,s.f4,s.f5,s.f6,s.f7,s.f8,s.f9,s.f10,s.f11,s.f12,s.f13,s.f14,s.f15,s.f16,s.f17,s.f18,s.f19,s.f20,s.f21,s.f22,s.f23,s.f24,s.f25,s.f26,s.f27,s.f28,s.f29,s.f30,s.f31,s.f32,s.f33,s.f34,s.f35,s.f36,s.f37,s.f38,s.f39,s.f40,s.f41,s.f42,s.f43,s.f44,s.f45,s.f46,s.f47,s.f48,s.f49,s.f50,s.f51,s.f52,s.f53,s.f54,s.f55,s.f56,s.f57,s.f58,s.f59,s.f60,s.f61,s.f62,s.f63,s.f64,s.f65,s.f66,s.f67,s.f68,s.f69,s.f70,s.f71,s.f72,s.f73,s.f74,s.f75,s.f76,s.f77,s.f78,s.f79,s.f80,s.f81,s.f82a,s.f82n,s.f82c,k⟩
theorem ldR60_of {a : Addr} {w : World} {s : R60} {K : R60 -> Prop} (h : At w a s.l) (k : K s) : ldR60 a w K := (ldI_c (h 0 _ rfl) (ldI_c (h 1 _ rfl) (ldI_c (h 2 _ rfl) (ldI_c (h 3 _ rfl) (ldI_c (h 4 _ rfl) (ldI_c (h 5 _ rfl) (ldI_c (h 6 _ rfl) (ldI_c (h 7 _ rfl) (ldI_c (h 8 _ rfl) (ldI_c (h 9 _ rfl) (ldI_c (h 10 _ rfl) (ldI_c (h 11 _ rfl) (ldI_c (h 12 _ rfl) (ldI_c (h 13 _ rfl) (ldI_c (h 14 _ rfl) (ldI_c (h 15 _ rfl) (ldI_c (h 16 _ rfl) (ldI_c (h 17 _ rfl) (ldI_c (h 18 _ rfl) (ldI_c (h 19 _ rfl) (ldI_c (h 20 _ rfl) (ldI_c (h 21 _ rfl) (ldI_c (h 22 _ rfl) (ldI_c (h 23 _ rfl) (ldI_c (h 24 _ rfl) (ldI_c (h 25 _ rfl) (ldI_c (h 26 _ rfl) (ldI_c (h 27 _ rfl) (ldI_c (h 28 _ rfl) (ldI_c (h 29 _ rfl) (ldI_c (h 30 _ rfl) (ldI_c (h 31 _ rfl) (ldI_c (h 32 _ rfl) (ldI_c (h 33 _ rfl) (ldI_c (h 34 _ rfl) (ldI_c (h 35 _ rfl) (ldI_c (h 36 _ rfl) (ldI_c (h 37 _ rfl) (ldB_c (h 38 _ rfl) (ldB_c (h 39 _ rfl) (ldB_c (h 40 _ rfl) (ldI_c (h 41 _ rfl) (ldI_c (h 42 _ rfl) (ldI_c (h 43 _ rfl) (ldI_c (h 44 _ rfl) (ldI_c (h 45 _ rfl) (ldI_c (h 46 _ rfl) (ldI_c (h 47 _ rfl) (ldI_c (h 48 _ rfl) (ldI_c (h 49 _ rfl) (ldI_c (h 50 _ rfl) (ldI_c (h 51 _ rfl) (ldI_c (h 52 _ rfl) (ldI_c (h 53 _ rfl) (ldI_c (h 54 _ rfl) (ldI_c (h 55 _ rfl) (ldI_c (h 56 _ rfl) (ldI_c (h 57 _ rfl) (ldI_c (h 58 _ rfl) (ldI_c (h 59 _ rfl) (ldI_c (h 60 _ rfl) (ldI_c (h 61 _ rfl) (ldI_c (h 62 _ rfl) (ldI_c (h 63 _ rfl) (ldI_c (h 64 _ rfl) (ldI_c (h 65 _ rfl) (ldI_c (h 66 _ rfl) (ldI_c (h 67 _ rfl) (ldI_c (h 68 _ rfl) (ldI_c (h 69 _ rfl) (ldI_c (h 70 _ rfl) (ldI_c (h 71 _ rfl) (ldI_c (h 72 _ rfl) (ldI_c (h 73 _ rfl) (ldI_c (h 74 _ rfl) (ldI_c (h 75 _ rfl) (ldI_c (h 76 _ rfl) (ldI_c (h 77 _ rfl) (ldI_c (h 78 _ rfl) (ldB_c (h 79 _ rfl) (ldB_c (h 80 _ rfl) (ldB_c (h 81 _ rfl) (ldC_c (h 82 _ rfl) k)))))))))))))))))))))))))))))))))))))))))))))))))))))))))))))))))))))))))))))))))))
def R60.z : R60 := ⟨0,0,0,0,0,0,0,0,0,0,0,0,0,0,0,0,0,0,0,0,0,0,0,0,0,0,0,0,0,0,0,0,0,0,0,0,0,0,false,false,false,0,0,0,0,0,0,0,0,0,0,0,0,0,0,0,0,0,0,0,0,0,0,0,0,0,0,0,0,0,0,0,0,0,0,0,0,0,0,false,false,false,none,0,0⟩
theorem R60.c_size (s : R60) : s.c.size = 83 := rfl
theorem R60.l_len (s : R60) : s.l.length = 83 := rfl
end Go.Proofs.YtilenpnpnbdndaaGreatDoor
namespace Go.Sh
open Go
section
variable {P : Program} {W w : World} {L : List HP} {t u ty e : TypeId} {inf : TypeInfo} {a : Option Addr} {l c : Nat} {xs : List Value}
theorem append_str_own {base : Nat} (E : ElemT P t e 1 1 (.int .u8 0) inf) (hu : P.underlying u = some .string) (h : Own w base e 1 a l c xs) {s : ByteArray} (hb : l + s.size <= 140737488355328) (hbase : base <= w.heap.size) :
  ∃ a' l' c' w',Sem.run P (Builtin.append_ #[t,u] ty #[.slice a l c,.string s]) w = .ok (.slice a' l' c') w' /\ l' = l + s.size /\ Own w' base e 1 a' l' c' (xs ++ Lib.strCells s) /\ Fr (inB a) w w' /\ (∀ k,inB a' k -> inB a k \/ w.heap.size <= k) := by
 have fr : ∀ w',w.grownBy w' (Value.ownBlock (.slice a l c)) -> Fr (inB a) w w' := fun w' hg => ⟨hg.os,hg.tape,hg.output,hg.size,fun k hk hn => hg.block k hk fun e => hn (by
  cases a with
  | none => simp [Value.ownBlock] at e
  | some ad => simp [Value.ownBlock] at e; exact ⟨ad,rfl,e.symm⟩)⟩
 rcases h.cases with ⟨rfl,rfl,rfl⟩ | ⟨g',cur',rfl,k2,k3,k4,k5,k6,k7⟩
 ·obtain rfl : xs = [] := by have := h.length; simpa using this
  obtain ⟨v',w',hr,ho,hg,hnil⟩ := Lib.run_append_own_string (P := P) w w.heap.size t u ty e inf E.ht hu E.hi E.hz E.hsize E.hby (.slice none 0 0) 0 [] (World.ownsRow_nil w _ e 1) s (by unfold maxLen; omega) hb (Nat.le_refl _)
  rcases ho.2 with ⟨rfl,h0⟩ | ⟨g,cap,cur,rfl,h2,h3,h4,h5,h6,h7⟩
  ·rw [h0] at ho
   exact ⟨none,0,0,w',hr,by omega,⟨ho.1,.inl ⟨rfl,rfl⟩⟩,fr w' hg,fun k ⟨ad,e,_⟩ => by cases e⟩
  ·exact ⟨_,_,_,w',hr,rfl,⟨ho.1,.inr ⟨g,cap,cur,rfl,by omega,h3,h4,h5,h6,h7⟩⟩,fr w' hg,fun k ⟨ad,e,hk⟩ => by
    cases e
    simp only at hk
    subst hk
    exact .inr h2⟩
 ·obtain ⟨v',w',hr,ho,hg,hnil⟩ := Lib.run_append_own_string (P := P) w base t u ty e inf E.ht hu E.hi E.hz E.hsize E.hby _ l xs h s (by unfold maxLen; omega) hb hbase
  rcases ho.2 with ⟨rfl,h0⟩ | ⟨g,cap,cur,rfl,h2,h3,h4,h5,h6,h7⟩
  ·rw [h0] at ho
   exact ⟨none,0,0,w',hr,by omega,⟨ho.1,.inl ⟨rfl,rfl⟩⟩,fr w' hg,fun k ⟨ad,e,_⟩ => by cases e⟩
  ·refine ⟨_,_,_,w',hr,rfl,ho,fr w' hg,fun k ⟨ad,e,hk⟩ => ?_⟩
   cases e
   simp only at hk
   subst hk
   by_cases hroom : l + s.size <= c
   ·have hr2 := Lib.run_append_room_string (P := P) w t u ty e inf E.ht hu E.hi E.hsize g' l c cur' k3 s hroom (by rw [Nat.mul_one] at k6; omega)
    rw [hr] at hr2
    simp only [Result.ok.injEq,Value.slice.injEq,Option.some.injEq,Addr.mk.injEq] at hr2
    exact .inl ⟨_,rfl,hr2.1.1.1.symm⟩
   ·have hr2 := Lib.run_append_grow_string (P := P) w t u ty e inf _ E.ht hu E.hi E.hz ⟨g',0,none⟩ l c xs (by rw [E.hsize]; exact h.length) (fun j v hj => h.rd.at hj) s (by omega) (by omega) (growslice_fits (by omega) (by rw [E.hby]; omega))
    rw [hr] at hr2
    simp only [Result.ok.injEq,Value.slice.injEq,Option.some.injEq,Addr.mk.injEq] at hr2
    exact .inr (by omega)
theorem Hs.appendT (E : ElemT P t e 1 1 (.int .u8 0) inf) (hu : P.underlying u = some .string) (h : Hs W L w) (i : Nat) (hi : L[i]? = some (slP e 1 a l c xs)) {s : ByteArray} (hb : l + s.size <= 140737488355328)
  {K : Option Addr -> Nat -> Nat -> World -> Prop} (hk : ∀ a' c' w',Hs W (L.set i (slP e 1 a' (l + s.size) c' (xs ++ Lib.strCells s))) w' -> K a' (l + s.size) c' w') :
  ∃ a' l' c' w',Sem.run P (Builtin.append_ #[t,u] ty #[.slice a l c,.string s]) w = .ok (.slice a' l' c') w' /\ K a' l' c' w' := by
 obtain ⟨a',l',c',w',hr,rfl,ho,hf,hs⟩ := append_str_own (ty := ty) E hu (h.own i hi) hb h.size
 exact ⟨a',_,c',w',hr,hk a' c' w' (h.slice i hi ho hf hs)⟩
end
end Go.Sh
namespace Go.Proofs.YtilenpnpnbdndaaGreatDoor
open Go Go.Sh
set_option maxRecDepth 100000
def mk58 (p q : R49) : R58 := ⟨p.f0,p.f1,p.f2,p.f3,p.f4,p.f5,p.f6,p.f7,p.f8,p.f9,p.f10,p.f11,p.f12,p.f13,p.f14,p.f15,p.f16,p.f17,p.f18,p.f19,p.f20,p.f21,p.f22,p.f23,p.f24,p.f25,p.f26,p.f27,p.f28,p.f29,p.f30,p.f31,p.f32,p.f33,p.f34,p.f35,p.f36,p.f37,p.f38,p.f39,p.f40,q.f0,q.f1,q.f2,q.f3,q.f4,q.f5,q.f6,q.f7,q.f8,q.f9,q.f10,q.f11,q.f12,q.f13,q.f14,q.f15,q.f16,q.f17,q.f18,q.f19,q.f20,q.f21,q.f22,q.f23,q.f24,q.f25,q.f26,q.f27,q.f28,q.f29,q.f30,q.f31,q.f32,q.f33,q.f34,q.f35,q.f36,q.f37,q.f38,q.f39,q.f40⟩
def mk60 (p q : R49) (a : Option Addr) (n c : Nat) : R60 := ⟨p.f0,p.f1,p.f2,p.f3,p.f4,p.f5,p.f6,p.f7,p.f8,p.f9,p.f10,p.f11,p.f12,p.f13,p.f14,p.f15,p.f16,p.f17,p.f18,p.f19,p.f20,p.f21,p.f22,p.f23,p.f24,p.f25,p.f26,p.f27,p.f28,p.f29,p.f30,p.f31,p.f32,p.f33,p.f34,p.f35,p.f36,p.f37,p.f38,p.f39,p.f40,q.f0,q.f1,q.f2,q.f3,q.f4,q.f5,q.f6,q.f7,q.f8,q.f9,q.f10,q.f11,q.f12,q.f13,q.f14,q.f15,q.f16,q.f17,q.f18,q.f19,q.f20,q.f21,q.f22,q.f23,q.f24,q.f25,q.f26,q.f27,q.f28,q.f29,q.f30,q.f31,q.f32,q.f33,q.f34,q.f35,q.f36,q.f37,q.f38,q.f39,q.f40,a,n,c⟩
theorem mk60_l (p q : R49) (a : Option Addr) (n c : Nat) : (mk60 p q a n c).l = p.l ++ (q.l ++ [.slice a n c]) := rfl
theorem mk58_l (p q : R49) : (mk58 p q).l = p.l ++ q.l := rfl
theorem part_p (p q : R49) : partV Tryz.prog 50 (mk58 p q).c 0 = some p.v := by kernel_rfl
theorem part_q (p q : R49) : partV Tryz.prog 50 (mk58 p q).c 41 = some q.v := by kernel_rfl
section
variable {w : World} {b : Nat} {p q : R49} {a : Option Addr} {n c : Nat}
theorem at_p (h : At w ⟨b,0,none⟩ (mk60 p q a n c).l) : At w ⟨b,0,none⟩ p.l := fun j v hj => h j v (by
 rw [mk60_l,List.getElem?_append_left (List.getElem?_eq_some_iff.1 hj).1]; exact hj)
theorem at_q (h : At w ⟨b,0,none⟩ (mk60 p q a n c).l) : At w ⟨b,41,none⟩ q.l := fun j v hj => by
 have := h (41 + j) v (by
  rw [mk60_l,List.getElem?_append_right (by rw [R49.l_len]; omega),R49.l_len,Nat.add_sub_cancel_left,List.getElem?_append_left (List.getElem?_eq_some_iff.1 hj).1]; exact hj)
 rw [add_mk] at this ⊢
 rw [← this]
 congr 2
 omega
theorem at_58 (h : At w ⟨b,0,none⟩ (mk60 p q a n c).l) : At w ⟨b,0,none⟩ (mk58 p q).l := fun j v hj => h j v (by
 rw [mk60_l,← List.append_assoc,List.getElem?_append_left (by rw [mk58_l] at hj; exact (List.getElem?_eq_some_iff.1 hj).1)]; exact hj)
theorem at_d (h : At w ⟨b,0,none⟩ (mk60 p q a n c).l) : w.cell? ((Addr.mk b 0 none).add 82) = some (.slice a n c) := h 82 _ rfl
end
abbrev Dd := R26 × List UInt8
structure ScrOk (w : World) (p q : R49) (a : Option Addr) (ds : List Dd) : Prop where
 gp : GoodC p.c
 gq : GoodC q.c
 rd : Rd w a (ds.flatMap fun d => d.1.l)
 good : ∀ d ∈ ds,GoodD ⟨d.1.c,d.2⟩
 holds : ∀ d ∈ ds,Holds26 w d.1 d.2
 len : ∀ d ∈ ds,d.2.length < 4611686018427387904
theorem ScrOk.same {w w' : World} {p q : R49} {a : Option Addr} {ds : List Dd} (h : ScrOk w p q a ds) (hs : Same w w') : ScrOk w' p q a ds :=
 ⟨h.gp,h.gq,h.rd.fr hs fun _ _ x => x,h.good,fun d hd => (h.holds d hd).same hs,h.len⟩
open Classical in
noncomputable def lineE (d : Dd) : Int := if ∃ t,LineOk t d.1 d.2 then 0 else 1
open Classical in
noncomputable def lineS (d : Dd) : ByteArray := if h : ∃ t,LineOk t d.1 d.2 then lineOf (itemsOf h.choose) ⟨d.1.c,d.2⟩ else ⟨#[]⟩
theorem lineA_fn (d : Dd) : LineA d.1 d.2 (lineS d) (lineE d) := by
 unfold lineS lineE
 by_cases h : ∃ t,LineOk t d.1 d.2
 ·rw [dif_pos h,if_pos h]
  exact .inl ⟨h.choose,h.choose_spec,rfl,rfl⟩
 ·rw [dif_neg h,if_neg h]
  exact .inr ⟨fun t ht => h ⟨t,ht⟩,rfl,rfl⟩
theorem LineA.fn {R : R26} {dat : List UInt8} {S : ByteArray} {N : Int} (h : LineA R dat S N) : S = lineS (R,dat) /\ N = lineE (R,dat) := h.one (lineA_fn (R,dat))
open Classical in
noncomputable def confE (R : R49) : Int := if okAll confItems ⟨R.c,[]⟩ then 0 else 1
open Classical in
noncomputable def confS (R : R49) : ByteArray := if okAll confItems ⟨R.c,[]⟩ then lineOf confItems ⟨R.c,[]⟩ else ⟨#[]⟩
theorem setA_fn (R : R49) : SetA R (confS R) (confE R) := by
 unfold confS confE
 by_cases h : okAll confItems ⟨R.c,[]⟩
 ·rw [if_pos h,if_pos h]; exact .inl ⟨h,rfl,rfl⟩
 ·rw [if_neg h,if_neg h]; exact .inr ⟨h,rfl,rfl⟩
theorem SetA.fn {R : R49} {S : ByteArray} {N : Int} (h : SetA R S N) : S = confS R /\ N = confE R := h.one (setA_fn R)
theorem lineS_size (d : Dd) : (lineS d).size <= 786606 := by
 unfold lineS
 split
 ·rename_i h
  exact line_short h.choose_spec
 ·exact Nat.zero_le _
theorem confS_size (R : R49) : (confS R).size <= 6948353 := by
 unfold confS
 split
 ·rename_i h
  exact conf_short h
 ·exact Nat.zero_le _
theorem lineE_01 (d : Dd) : lineE d = 0 \/ lineE d = 1 := by
 unfold lineE; split <;> simp
theorem confE_01 (R : R49) : confE R = 0 \/ confE R = 1 := by
 unfold confE; split <;> simp
noncomputable def badAt : List Dd -> Nat -> Option Nat
 | [],_ => none
 | d :: ds,i => if lineE d = 0 then badAt ds (i + 1) else some i
noncomputable def gather : List Dd -> List UInt8 -> List UInt8
 | [],b => b
 | d :: ds,b => gather ds (if b.length <= 4194304 then b ++ (bl (lineS d) ++ [10]) else b)
noncomputable def headB (p q : R49) : List UInt8 := bl (confS p) ++ [10] ++ (bl (confS q) ++ [10])
noncomputable def tailF (b : List UInt8) (ds : List Dd) : ByteArray × Int × Int :=
 if 65536 < ds.length then (⟨#[]⟩,-1,3)
 else match badAt ds 0 with
  | some i => (⟨#[]⟩,(i : Int),1)
  | none => if 4194304 < (gather ds b).length then (⟨#[]⟩,-1,2) else (bs (gather ds b),0,0)
noncomputable def printF (p q : R49) (ds : List Dd) : ByteArray × Int × Int :=
 if confE p ≠ 0 \/ confE q ≠ 0 then (⟨#[]⟩,-1,1) else tailF (headB p q) ds
def tup3 (x : ByteArray × Int × Int) : Value := .tuple #[.string x.1,.int .i64 x.2.1,.int .i64 x.2.2]
theorem cells_u8v (s : ByteArray) : Lib.strCells s = u8v (bl s) := rfl
end Go.Proofs.YtilenpnpnbdndaaGreatDoor
namespace Go.Sh
open Go
open Go.ChangeShapes Go.WideShapes Go.ChangeAt Go.WideMaps Go.WideElems Go.RowKit
theorem wf_u16 {x : Int} (h : (Lit.int .u16 x).wf = true) : 0 <= x /\ x <= 65535 := by
 simp [Lit.wf,IntKind.min,IntKind.max,IntKind.signed,IntKind.bits] at h; omega
theorem wf_u32 {x : Int} (h : (Lit.int .u32 x).wf = true) : 0 <= x /\ x < 4294967296 := by
 simp [Lit.wf,IntKind.min,IntKind.max,IntKind.signed,IntKind.bits] at h; omega
theorem cells_list {w : World} {base : Nat} {a : Addr} {n : Nat} {cs : List Value} (h : w.cells? base a n = some cs) : cs.length = n /\ ∀ (i : Nat),i < n -> w.cell? (a.add i) = cs[i]? := by
 unfold World.cells? at h
 split at h
 ·have key : ∀ (l : List Nat) (cs : List Value),l.mapM (fun i => w.cell? (a.add i)) = some cs -> cs.length = l.length /\ ∀ (i k : Nat),l[i]? = some k -> w.cell? (a.add k) = cs[i]? := by
   intro l
   induction l with
   | nil => intro cs h; simp at h; subst h; simp
   | cons x l ih =>
    intro cs h
    simp only [List.mapM_cons,Option.bind_eq_bind,Option.bind_eq_some_iff] at h
    obtain ⟨v,hv,r,hr,e⟩ := h
    cases e
    obtain ⟨i1,i2⟩ := ih r hr
    refine ⟨by simp [i1],fun i k hk => ?_⟩
    cases i with
    | zero => simp at hk; subst hk; simpa using hv
    | succ i => simp at hk; simpa using i2 i k hk
  obtain ⟨k1,k2⟩ := key _ _ h
  exact ⟨by simpa using k1,fun i hi => k2 i i (by simp [hi])⟩
 ·cases h
theorem flatten_at {sz : Nat} (hs : 0 < sz) : ∀ {rows : List (List Value)},(∀ r ∈ rows,r.length = sz) -> ∀ (j : Nat),rows.flatten[j]? = (rows[j / sz]?).bind (·[j % sz]?)
 | [],_,j => by simp
 | r :: rows,h,j => by
  have hr := h r (by simp)
  rw [List.flatten_cons]
  by_cases hj : j < sz
  ·rw [List.getElem?_append_left (by omega),Nat.div_eq_of_lt hj,Nat.mod_eq_of_lt hj]; rfl
  ·have ih := flatten_at hs (rows := rows) (fun q hq => h q (List.mem_cons_of_mem _ hq)) (j - sz)
   rw [List.getElem?_append_right (by omega),hr,ih]
   have e1 : j / sz = (j - sz) / sz + 1 := by rw [Nat.div_eq_sub_div hs (by omega)]
   have e2 : j % sz = (j - sz) % sz := Nat.mod_eq_sub_mod (by omega)
   rw [e1,e2]; rfl
def structIs (P : Program) (t : TypeId) (l : List (TypeId × Nat)) : Bool :=
 match P.underlying t with
 | some (.struct fs) => decide (fs.toList.map (fun f => (f.type,f.offset)) = l)
 | _ => false
theorem struct_of {P : Program} {t : TypeId} {l : List (TypeId × Nat)} (h : structIs P t l = true) : ∃ fs,P.underlying t = some (.struct fs) /\ fs.toList.map (fun f => (f.type,f.offset)) = l := by
 unfold structIs at h
 split at h
 ·rename_i fs e
  exact ⟨fs,e,of_decide_eq_true h⟩
 ·cases h
end Go.Sh
