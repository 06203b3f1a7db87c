/- Own text: part of the shallow reading of the code and of the contracts that are proved over it. -/
import Derived.Test.YtilenpnpnbdndaaGreatDoorShO
import Derived.Test.YtilenpnpnbdndaaGreatDoorProg
import Derived.KernelRfl
import Derived.Test.YtilenpnpnbdndaaGreatDoorShI
import Derived.Defers
import Derived.Recover
namespace Go.Proofs.YtilenpnpnbdndaaGreatDoor
open Go Go.Sh
set_option maxRecDepth 100000
set_option maxHeartbeats 4000000
theorem mixed : Tryz.prog.follows .mixedOrders = true := by kernel_rfl
attribute [local instance] Esc.none
structure R155 where
 f0 : Int
 f1 : Int
 f2 : Int
 f3 : Int
 f4 : Int
 f5 : Int
 f6 : Int
 f7 : Int
 f8 : Int
 f9 : Int
 f10 : Int
 f11 : Int
 f12 : Int
 f13 : Int
 f14 : Int
 f15 : Int
 f16 : Int
 f17 : Int
 f18 : Int
 f19 : Int
 f20 : Int
 f21 : Int
 f22 : Int
 f23 : Int
def R155.l (s : R155) : List Value := [.int .u8 s.f0,.int .u8 s.f1,.int .u8 s.f2,.int .u8 s.f3,.int .u8 s.f4,.int .u8 s.f5,.int .u8 s.f6,.int .u8 s.f7,.int .u8 s.f8,.int .u8 s.f9,.int .u8 s.f10,.int .u8 s.f11,.int .u8 s.f12,.int .u8 s.f13,.int .u8 s.f14,.int .u8 s.f15,.int .u8 s.f16,.int .u8 s.f17,.int .u8 s.f18,.int .u8 s.f19,.int .u8 s.f20,.int .u8 s.f21,.int .u8 s.f22,.int .u8 s.f23]
def R155.c (s : R155) : Array Value := #[.int .u8 s.f0,.int .u8 s.f1,.int .u8 s.f2,.int .u8 s.f3,.int .u8 s.f4,.int .u8 s.f5,.int .u8 s.f6,.int .u8 s.f7,.int .u8 s.f8,.int .u8 s.f9,.int .u8 s.f10,.int .u8 s.f11,.int .u8 s.f12,.int .u8 s.f13,.int .u8 s.f14,.int .u8 s.f15,.int .u8 s.f16,.int .u8 s.f17,.int .u8 s.f18,.int .u8 s.f19,.int .u8 s.f20,.int .u8 s.f21,.int .u8 s.f22,.int .u8 s.f23]
def R155.v (s : R155) : Value := .agg #[.int .u8 s.f0,.int .u8 s.f1,.int .u8 s.f2,.int .u8 s.f3,.int .u8 s.f4,.int .u8 s.f5,.int .u8 s.f6,.int .u8 s.f7,.int .u8 s.f8,.int .u8 s.f9,.int .u8 s.f10,.int .u8 s.f11,.int .u8 s.f12,.int .u8 s.f13,.int .u8 s.f14,.int .u8 s.f15,.int .u8 s.f16,.int .u8 s.f17,.int .u8 s.f18,.int .u8 s.f19,.int .u8 s.f20,.int .u8 s.f21,.int .u8 s.f22,.int .u8 s.f23]
def R155.z : R155 := ⟨0,0,0,0,0,0,0,0,0,0,0,0,0,0,0,0,0,0,0,0,0,0,0,0⟩
theorem R155.c_size (s : R155) : s.c.size = 24 := rfl
theorem R155.l_len (s : R155) : s.l.length = 24 := rfl
structure R85 where
 f0 : Int
 f1 : ByteArray
 f2a : Option Addr
 f2n : Nat
 f2c : Nat
def R85.l (s : R85) : List Value := [.int .i64 s.f0,.string s.f1,.slice s.f2a s.f2n s.f2c]
def R85.c (s : R85) : Array Value := #[.int .i64 s.f0,.string s.f1,.slice s.f2a s.f2n s.f2c]
def R85.v (s : R85) : Value := .agg #[.int .i64 s.f0,.string s.f1,.slice s.f2a s.f2n s.f2c]
def ldR85 (a : Addr) (w : World) (K : R85 -> Prop) : Prop := ldI .i64 (a.add 0) w fun f0 => ldS (a.add 1) w fun f1 => ldC (a.add 2) w fun f2a f2n f2c => K ⟨f0,f1,f2a,f2n,f2c⟩
def exR85 (K : R85 -> Prop) : Prop := ∃ f0 f1 f2a f2n f2c,K ⟨f0,f1,f2a,f2n,f2c⟩
theorem exR85_of {K : R85 -> Prop} (s : R85) (k : K s) : exR85 K := ⟨s.f0,s.f1,s.f2a,s.f2n,s.f2c,k⟩
theorem ldR85_of {a : Addr} {w : World} {s : R85} {K : R85 -> Prop} (h : At w a s.l) (k : K s) : ldR85 a w K := (ldI_c (h 0 _ rfl) (ldS_c (h 1 _ rfl) (ldC_c (h 2 _ rfl) k)))
def R85.z : R85 := ⟨0,ByteArray.empty,none,0,0⟩
theorem R85.c_size (s : R85) : s.c.size = 3 := rfl
theorem R85.l_len (s : R85) : s.l.length = 3 := rfl
structure R26 where
 f0 : Int
 f1 : Int
 f2 : Int
 f3 : Int
 f4 : Int
 f5 : Int
 f6 : Int
 f7 : Int
 f8 : Int
 f9 : Bool
 f10a : Option Addr
 f10n : Nat
 f10c : Nat
 f11 : ByteArray
def R26.l (s : R26) : List Value := [.int .i64 s.f0,.int .i64 s.f1,.int .i64 s.f2,.int .i64 s.f3,.int .i64 s.f4,.int .u8 s.f5,.int .i64 s.f6,.int .u16 s.f7,.int .u32 s.f8,.bool s.f9,.slice s.f10a s.f10n s.f10c,.string s.f11]
def R26.c (s : R26) : Array Value := #[.int .i64 s.f0,.int .i64 s.f1,.int .i64 s.f2,.int .i64 s.f3,.int .i64 s.f4,.int .u8 s.f5,.int .i64 s.f6,.int .u16 s.f7,.int .u32 s.f8,.bool s.f9,.slice s.f10a s.f10n s.f10c,.string s.f11]
def R26.v (s : R26) : Value := .agg #[.int .i64 s.f0,.int .i64 s.f1,.int .i64 s.f2,.int .i64 s.f3,.int .i64 s.f4,.int .u8 s.f5,.int .i64 s.f6,.int .u16 s.f7,.int .u32 s.f8,.bool s.f9,.slice s.f10a s.f10n s.f10c,.string s.f11]
def ldR26 (a : Addr) (w : World) (K : R26 -> Prop) : Prop := ldI .i64 (a.add 0) w fun f0 => ldI .i64 (a.add 1) w fun f1 => ldI .i64 (a.add 2) w fun f2 => ldI .i64 (a.add 3) w fun f3 => ldI .i64 (a.add 4) w fun f4 => ldI .u8 (a.add 5) w fun f5 => ldI .i64 (a.add 6) w fun f6 => ldI .u16 (a.add 7) w fun f7 => ldI .u32 (a.add 8) w fun f8 => ldB (a.add 9) w fun f9 => ldC (a.add 10) w fun f10a f10n f10c => ldS (a.add 11) w fun f11 => K ⟨f0,f1,f2,f3,f4,f5,f6,f7,f8,f9,f10a,f10n,f10c,f11⟩
def exR26 (K : R26 -> Prop) : Prop := ∃ f0 f1 f2 f3 f4 f5 f6 f7 f8 f9 f10a f10n f10c f11,K ⟨f0,f1,f2,f3,f4,f5,f6,f7,f8,f9,f10a,f10n,f10c,f11⟩
theorem exR26_of {K : R26 -> Prop} (s : R26) (k : K s) : exR26 K := ⟨s.f0,s.f1,s.f2,s.f3,s.f4,s.f5,s.f6,s.f7,s.f8,s.f9,s.f10a,s.f10n,s.f10c,s.f11,k⟩
theorem ldR26_of {a : Addr} {w : World} {s : R26} {K : R26 -> Prop} (h : At w a s.l) (k : K s) : ldR26 a w K := (ldI_c (h 0 _ rfl) (ldI_c (h 1 _ rfl) (ldI_c (h 2 _ rfl) (ldI_c (h 3 _ rfl) (ldI_c (h 4 _ rfl) (ldI_c (h 5 _ rfl) (ldI_c (h 6 _ rfl) (ldI_c (h 7 _ rfl) (ldI_c (h 8 _ rfl) (ldB_c (h 9 _ rfl) (ldC_c (h 10 _ rfl) (ldS_c (h 11 _ rfl) k))))))))))))
def R26.z : R26 := ⟨0,0,0,0,0,0,0,0,0,false,none,0,0,ByteArray.empty⟩
theorem R26.c_size (s : R26) : s.c.size = 12 := rfl
theorem R26.l_len (s : R26) : s.l.length = 12 := rfl
structure R49 where
 f0 : Int
 f1 : Int
 f2 : Int
 f3 : Int
 f4 : Int
 f5 : Int
 f6 : Int
 f7 : Int
 f8 : Int
 f9 : Int
 f10 : Int
 f11 : Int
 f12 : Int
 f13 : Int
 f14 : Int
 f15 : Int
 f16 : Int
 f17 : Int
 f18 : Int
 f19 : Int
 f20 : Int
 f21 : Int
 f22 : Int
 f23 : Int
 f24 : Int
 f25 : Int
 f26 : Int
 f27 : Int
 f28 : Int
 f29 : Int
 f30 : Int
 f31 : Int
 f32 : Int
 f33 : Int
 f34 : Int
 f35 : Int
 f36 : Int
 f37 : Int
 f38 : Bool
 f39 : Bool
 f40 : Bool
def R49.l (s : R49) : List Value := [.int .u8 s.f0,.int .u8 s.f1,.int .u8 s.f2,.int .u8 s.f3,.int .u8 s.f4,.int .u8 s.f5,.int .u8 s.f6,.int .u8 s.f7,.int .u8 s.f8,.int .u8 s.f9,.int .u8 s.f10,.int .u8 s.f11,.int .u8 s.f12,.int .u8 s.f13,.int .u8 s.f14,.int .u8 s.f15,.int .u64 s.f16,.int .i64 s.f17,.int .u32 s.f18,.int .u16 s.f19,.int .u16 s.f20,.int .i64 s.f21,.int .i64 s.f22,.int .u16 s.f23,.int .u16 s.f24,.int .i64 s.f25,.int .i64 s.f26,.int .i64 s.f27,.int .i64 s.f28,.int .i64 s.f29,.int .i64 s.f30,.int .i64 s.f31,.int .i64 s.f32,.int .i64 s.f33,.int .i64 s.f34,.int .i64 s.f35,.int .i64 s.f36,.int .i64 s.f37,.bool s.f38,.bool s.f39,.bool s.f40]
def R49.c (s : R49) : Array Value := #[.int .u8 s.f0,.int .u8 s.f1,.int .u8 s.f2,.int .u8 s.f3,.int .u8 s.f4,.int .u8 s.f5,.int .u8 s.f6,.int .u8 s.f7,.int .u8 s.f8,.int .u8 s.f9,.int .u8 s.f10,.int .u8 s.f11,.int .u8 s.f12,.int .u8 s.f13,.int .u8 s.f14,.int .u8 s.f15,.int .u64 s.f16,.int .i64 s.f17,.int .u32 s.f18,.int .u16 s.f19,.int .u16 s.f20,.int .i64 s.f21,.int .i64 s.f22,.int .u16 s.f23,.int .u16 s.f24,.int .i64 s.f25,.int .i64 s.f26,.int .i64 s.f27,.int .i64 s.f28,.int .i64 s.f29,.int .i64 s.f30,.int .i64 s.f31,.int .i64 s.f32,.int .i64 s.f33,.int .i64 s.f34,.int .i64 s.f35,.int .i64 s.f36,.int .i64 s.f37,.bool s.f38,.bool s.f39,.bool s.f40]
def R49.v (s : R49) : Value := .agg #[.int .u8 s.f0,.int .u8 s.f1,.int .u8 s.f2,.int .u8 s.f3,.int .u8 s.f4,.int .u8 s.f5,.int .u8 s.f6,.int .u8 s.f7,.int .u8 s.f8,.int .u8 s.f9,.int .u8 s.f10,.int .u8 s.f11,.int .u8 s.f12,.int .u8 s.f13,.int .u8 s.f14,.int .u8 s.f15,.int .u64 s.f16,.int .i64 s.f17,.int .u32 s.f18,.int .u16 s.f19,.int .u16 s.f20,.int .i64 s.f21,.int .i64 s.f22,.int .u16 s.f23,.int .u16 s.f24,.int .i64 s.f25,.int .i64 s.f26,.int .i64 s.f27,.int .i64 s.f28,.int .i64 s.f29,.int .i64 s.f30,.int .i64 s.f31,.int .i64 s.f32,.int .i64 s.f33,.int .i64 s.f34,.int .i64 s.f35,.int .i64 s.f36,.int .i64 s.f37,.bool s.f38,.bool s.f39,.bool s.f40]
def ldR49 (a : Addr) (w : World) (K : R49 -> Prop) : Prop := ldI .u8 (a.add 0) w fun f0 => ldI .u8 (a.add 1) w fun f1 => ldI .u8 (a.add 2) w fun f2 => ldI .u8 (a.add 3) w fun f3 => ldI .u8 (a.add 4) w fun f4 => ldI .u8 (a.add 5) w fun f5 => ldI .u8 (a.add 6) w fun f6 => ldI .u8 (a.add 7) w fun f7 => ldI .u8 (a.add 8) w fun f8 => ldI .u8 (a.add 9) w fun f9 => ldI .u8 (a.add 10) w fun f10 => ldI .u8 (a.add 11) w fun f11 => ldI .u8 (a.add 12) w fun f12 => ldI .u8 (a.add 13) w fun f13 => ldI .u8 (a.add 14) w fun f14 => ldI .u8 (a.add 15) w fun f15 => ldI .u64 (a.add 16) w fun f16 => ldI .i64 (a.add 17) w fun f17 => ldI .u32 (a.add 18) w fun f18 => ldI .u16 (a.add 19) w fun f19 => ldI .u16 (a.add 20) w fun f20 => ldI .i64 (a.add 21) w fun f21 => ldI .i64 (a.add 22) w fun f22 => ldI .u16 (a.add 23) w fun f23 => ldI .u16 (a.add 24) w fun f24 => ldI .i64 (a.add 25) w fun f25 => ldI .i64 (a.add 26) w fun f26 => ldI .i64 (a.add 27) w fun f27 => ldI .i64 (a.add 28) w fun f28 => ldI .i64 (a.add 29) w fun f29 => ldI .i64 (a.add 30) w fun f30 => ldI .i64 (a.add 31) w fun f31 => ldI .i64 (a.add 32) w fun f32 => ldI .i64 (a.add 33) w fun f33 => ldI .i64 (a.add 34) w fun f34 => ldI .i64 (a.add 35) w fun f35 => ldI .i64 (a.add 36) w fun f36 => ldI .i64 (a.add 37) w fun f37 => ldB (a.add 38) w fun f38 => ldB (a.add 39) w fun f39 => ldB (a.add 40) w fun f40 => K ⟨f0,f1,f2,f3,f4,f5,f6,f7,f8,f9,f10,f11,f12,f13,f14,f15,f16,f17,f18,f19,f20,f21,f22,f23,f24,f25,f26,f27,f28,f29,f30,f31,f32,f33,f34,f35,f36,f37,f38,f39,f40⟩
def exR49 (K : R49 -> Prop) : Prop := ∃ f0 f1 f2 f3 f4 f5 f6 f7 f8 f9 f10 f11 f12 f13 f14 f15 f16 f17 f18 f19 f20 f21 f22 f23 f24 f25 f26 f27 f28 f29 f30 f31 f32 f33 f34 f35 f36 f37 f38 f39 f40,K ⟨f0,f1,f2,f3,f4,f5,f6,f7,f8,f9,f10,f11,f12,f13,f14,f15,f16,f17,f18,f19,f20,f21,f22,f23,f24,f25,f26,f27,f28,f29,f30,f31,f32,f33,f34,f35,f36,f37,f38,f39,f40⟩
theorem exR49_of {K : R49 -> Prop} (s : R49) (k : K s) : exR49 K := ⟨s.f0,s.f1,s.f2,s.f3,s.f4,s.f5,s.f6,s.f7,s.f8,s.f9,s.f10,s.f11,s.f12,s.f13,s.f14,s.f15,s.f16,s.f17,s.f18,s.f19,s.f20,s.f21,s.f22,s.f23,s.f24,s.f25,s.f26,s.f27,s.f28,s.f29,s.f30,s.f31,s.f32,s.f33,s.f34,s.f35,s.f36,s.f37,s.f38,s.f39,s.f40,k⟩
theorem ldR49_of {a : Addr} {w : World} {s : R49} {K : R49 -> Prop} (h : At w a s.l) (k : K s) : ldR49 a w K := (ldI_c (h 0 _ rfl) (ldI_c (h 1 _ rfl) (ldI_c (h 2 _ rfl) (ldI_c (h 3 _ rfl) (ldI_c (h 4 _ rfl) (ldI_c (h 5 _ rfl) (ldI_c (h 6 _ rfl) (ldI_c (h 7 _ rfl) (ldI_c (h 8 _ rfl) (ldI_c (h 9 _ rfl) (ldI_c (h 10 _ rfl) (ldI_c (h 11 _ rfl) (ldI_c (h 12 _ rfl) (ldI_c (h 13 _ rfl) (ldI_c (h 14 _ rfl) (ldI_c (h 15 _ rfl) (ldI_c (h 16 _ rfl) (ldI_c (h 17 _ rfl) (ldI_c (h 18 _ rfl) (ldI_c (h 19 _ rfl) (ldI_c (h 20 _ rfl) (ldI_c (h 21 _ rfl) (ldI_c (h 22 _ rfl) (ldI_c (h 23 _ rfl) (ldI_c (h 24 _ rfl) (ldI_c (h 25 _ rfl) (ldI_c (h 26 _ rfl) (ldI_c (h 27 _ rfl) (ldI_c (h 28 _ rfl) (ldI_c (h 29 _ rfl) (ldI_c (h 30 _ rfl) (ldI_c (h 31 _ rfl) (ldI_c (h 32 _ rfl) (ldI_c (h 33 _ rfl) (ldI_c (h 34 _ rfl) (ldI_c (h 35 _ rfl) (ldI_c (h 36 _ rfl) (ldI_c (h 37 _ rfl) (ldB_c (h 38 _ rfl) (ldB_c (h 39 _ rfl) (ldB_c (h 40 _ rfl) k)))))))))))))))))))))))))))))))))))))))))
def R49.z : R49 := ⟨0,0,0,0,0,0,0,0,0,0,0,0,0,0,0,0,0,0,0,0,0,0,0,0,0,0,0,0,0,0,0,0,0,0,0,0,0,0,false,false,false⟩
theorem R49.c_size (s : R49) : s.c.size = 41 := rfl
theorem R49.l_len (s : R49) : s.l.length = 41 := rfl
structure R45 where
 f0 : Int
 f1 : Int
 f2 : Int
def R45.l (s : R45) : List Value := [.int .i64 s.f0,.int .i64 s.f1,.int .i64 s.f2]
def R45.c (s : R45) : Array Value := #[.int .i64 s.f0,.int .i64 s.f1,.int .i64 s.f2]
def R45.v (s : R45) : Value := .agg #[.int .i64 s.f0,.int .i64 s.f1,.int .i64 s.f2]
def R45.z : R45 := ⟨0,0,0⟩
theorem R45.c_size (s : R45) : s.c.size = 3 := rfl
theorem R45.l_len (s : R45) : s.l.length = 3 := rfl
end Go.Proofs.YtilenpnpnbdndaaGreatDoor
namespace Go.Sh
open Go
def inP (ps : List Path) (π : Path) : Bool := ps.any fun p => peq p π
def okP (P : Program) (N : Fm) (ps : List Path) : Path -> Code -> Bool
 | π,.region _ ops d => match inP ps π with | true => true | false => okOps P N ops && (!d || okD P ops)
 | π,.seq a b => match inP ps π with | true => true | false => okP P N ps (0 :: π) a && okP P N ps (1 :: π) b
 | π,.cond _ a b => match inP ps π with | true => true | false => okP P N ps (0 :: π) a && okP P N ps (1 :: π) b
 | π,.block _ b => match inP ps π with | true => true | false => okP P N ps (0 :: π) b
 | π,.loop b => match inP ps π with | true => true | false => okP P N ps (0 :: π) b
 | _,_ => true
section
variable {P : Program} {N : Fm}
theorem vc_soundO [Esc] (hm : P.follows .mixedOrders = true) {c0 : Code} {orc : Orc} (ho : OrcOk P N c0 orc) {ps : List Path} (hps : ∀ π,orc π = none -> inP ps π = false) : ∀ (c : Code) (π : Path),getAt c0 π = c -> okP P N ps π c = true -> ∀ (Q : Post) (t : Tm) (w : World),
  vc P orc π c Q t w -> W P N c Q t w := by
 intro c
 induction c with
 | seq a b iha ihb =>
  intro π hπ hok Q t w h
  unfold vc at h
  split at h
  ·rename_i O hO; rw [← hπ]; exact ho π O hO Q t w h
  ·simp only [okP,hps π (by assumption),Bool.and_eq_true] at hok
   refine W_seq ((iha (0 :: π) (by simp [getAt,hπ,child]) hok.1 _ t w h).mono fun o t w q => ?_)
   cases o with
   | normal => exact ihb (1 :: π) (by simp [getAt,hπ,child]) hok.2 _ t w q
   | exit i => exact q
   | ret => exact q
 | cond x a b iha ihb =>
  intro π hπ hok Q t w h
  unfold vc at h
  split at h
  ·rename_i O hO; rw [← hπ]; exact ho π O hO Q t w h
  ·simp only [okP,hps π (by assumption),Bool.and_eq_true] at hok
   have ha := iha (0 :: π) (by simp [getAt,hπ,child]) hok.1
   have hb := ihb (1 :: π) (by simp [getAt,hπ,child]) hok.2
   cases x with
   | tmp i =>
    simp only at h
    split at h
    ·rename_i e he
     refine W_cond (v := e) he ?_
     cases e with
     | true => have h := ha Q _ w h; rw [upd_same t i he] at h; exact h
     | false => have h := hb Q _ w h; rw [upd_same t i he] at h; exact h
    ·exact h.elim
   | const v =>
    cases v with
    | bool e =>
     refine W_cond (v := e) rfl ?_
     cases e with
     | true => exact ha Q _ w h
     | false => exact hb Q _ w h
    | _ => exact h.elim
   | _ => exact h.elim
 | block id b ih =>
  intro π hπ hok Q t w h
  unfold vc at h
  split at h
  ·rename_i O hO; rw [← hπ]; exact ho π O hO Q t w h
  ·simp only [okP,hps π (by assumption)] at hok
   exact W_block (ih (0 :: π) (by simp [getAt,hπ,child]) hok _ t w h)
 | loop b ih =>
  intro π hπ hok Q t w h
  unfold vc at h
  split at h
  ·rename_i O hO; rw [← hπ]; exact ho π O hO Q t w h
  ·simp only [okP,hps π (by assumption)] at hok
   obtain ⟨n,h⟩ := h
   refine W_loop (G := fun n => loopN (vc P orc (0 :: π) b) Q n) (fun _ _ h => h) (fun n t w h => ?_) n t w h
   exact ih (0 :: π) (by simp [getAt,hπ,child]) hok _ t w h
 | region id ops d =>
  intro π hπ hok Q t w h
  unfold vc at h
  split at h
  ·rename_i O hO; rw [← hπ]; exact ho π O hO Q t w h
  ·simp only [okP,hps π (by assumption),Bool.and_eq_true,Bool.or_eq_true,Bool.not_eq_true'] at hok
   cases d with
   | false => exact W_region hok.1 h
   | true => exact W_draw hm hok.1 (hok.2.resolve_left (by simp)) h
 | skip =>
  intro π hπ _ Q t w h
  unfold vc at h
  split at h
  ·rename_i O hO; rw [← hπ]; exact ho π O hO Q t w h
  ·exact fun r ds a ha => wpIn_skip ⟨t,ha,h⟩
 | label l =>
  intro π hπ _ Q t w h
  unfold vc at h
  split at h
  ·rename_i O hO; rw [← hπ]; exact ho π O hO Q t w h
  ·exact fun r ds a ha => wpIn_label ⟨t,ha,h⟩
 | exit i =>
  intro π hπ _ Q t w h
  unfold vc at h
  split at h
  ·rename_i O hO; rw [← hπ]; exact ho π O hO Q t w h
  ·exact fun r ds a ha => wpIn_exit ⟨t,ha,h⟩
 | ret =>
  intro π hπ _ Q t w h
  unfold vc at h
  split at h
  ·rename_i O hO; rw [← hπ]; exact ho π O hO Q t w h
  ·exact fun r ds a ha => wpIn_ret ⟨t,ha.free,h⟩
 | _ =>
  intro π hπ _ Q t w h
  unfold vc at h
  split at h
  ·rename_i O hO; rw [← hπ]; exact ho π O hO Q t w h
  ·exact h.elim
theorem hps_nil {orc : Orc} : ∀ π,orc π = none -> inP [] π = false := fun _ _ => rfl
theorem hps_cons {p : Path} {O : Post -> Tm -> World -> Prop} {l : List (Path × (Post -> Tm -> World -> Prop))} {ps : List Path} (h : ∀ π,orcOf l π = none -> inP ps π = false) : ∀ π,orcOf ((p,O) :: l) π = none -> inP (p :: ps) π = false := by
 intro π hn
 unfold orcOf at hn
 unfold inP
 rw [List.any_cons]
 cases hp : peq p π with
 | true => rw [hp] at hn; cases hn
 | false => rw [hp] at hn; exact h π hn
theorem W_lift [Esc] {c : Code} {Q : Post} {t : Tm} {w : World} (h : @W Esc.none P N.n c (fun o t w => match o with | .ret => Q .ret t w | _ => False) t w) : W P N c Q t w := fun r ds a ha => wpIn_mono (h r ds a ha.free) fun e a w q => by
 cases e with
 | normal => obtain ⟨_,_,q⟩ := q; exact q.elim
 | exit i => obtain ⟨_,_,q⟩ := q; exact q.elim
 | ret => obtain ⟨t,hM,q⟩ := q; exact ⟨t,hM,q⟩
 | goto l => exact q.elim
 | panic c => exact q.2.elim
 | outgrown => exact q.elim
end
section
variable {P : Program} {w : World}
def dcl (P : Program) (g : FuncId) (as_ : Array Value) (u : FrameMode) (w : World) (K : World -> Prop) : Prop :=
 CallsD P g as_ u w fun e u' w' => (∃ v,e = .returned v) /\ settle u' = .returning /\ K w'
theorem dcl.mono {g : FuncId} {as_ : Array Value} {u : FrameMode} {K K' : World -> Prop} (h : dcl P g as_ u w K) (k : ∀ w',K w' -> K' w') : dcl P g as_ u w K' :=
 CallsD.mono h fun _ _ _ ⟨a,b,c⟩ => ⟨a,b,k _ c⟩
theorem leaves_one {fn : Func} {tmps : Array Value} {R : Ending -> World -> Prop} {g : FuncId} {as_ : Array Value} {u : FrameMode} (hg : okFn P g = true) (hu : u ≠ .run)
  (h : dcl P g as_ u w fun w' => ∃ v,(results fn tmps).run P w' = .ok v w' /\ R (.returned v) w') : Leaves P fn tmps R [{ target := .fn (.func g) #[],args := as_ }] u w := by
 refine ⟨hu,.func g,#[],g,as_,rfl,by simp [invoke,run_callFunc hg],?_⟩
 refine CallsD.mono h fun e u' w' ⟨⟨v,he⟩,hs,hk⟩ => ?_
 subst he
 show Leaves P fn tmps R [] (settle u') w'
 rw [hs]
 exact hk
def Behind (P : Program) (fn : Func) (rest : Code) (g : FuncId) (xs : Array Operand) (K : Value -> World -> Prop) (t : Tm) (w : World) : Prop :=
 ∃ (S : List Nat) (E : List PanicEntry -> World -> Prop),
  @W ⟨E⟩ P ⟨fn.ntmps,S,t⟩ rest (fun o t' w' => match o with | .exit _ => False | _ => dcl P g (xs.map (ev t)) .returning w' fun w'' => resL P t' w'' fn.results.toList fun vs => K (tupV vs) w'') t w /\
  ∀ ch w',E ch w' -> dcl P g (xs.map (ev t)) (.panicking ch) w' fun w'' => ∀ t' : Tm,(∀ i ∈ S,t' i = t i) -> resL P t' w'' fn.results.toList fun vs => K (tupV vs) w''
theorem calls_ofD {f : FuncId} {fn : Func} {R0 rest : Code} {id : Nat} {dop : Oper} {g : FuncId} {xs : Array Operand} {ts : Array TypeId} {args : Array Value} {K : Value -> World -> Prop}
  (hf : P.funcs[f]? = some fn) (hb : fn.body = some (.seq R0 (.seq (.region id #[dop] false) rest))) (hd : dop.op = .defer { callee := .value (.func g),args := xs,argTypes := ts }) (hds : dop.dst = none) (hgd : dop.guard = none)
  (hg : okFn P g = true) (hN : args.size <= fn.ntmps)
  (h : @W Esc.none P fn.ntmps R0 (fun o t w => match o with | .normal => Behind P fn rest g xs K t w | _ => False) (args0 args) w) : Calls P f args w (rt K) := by
 refine calls_of_wp_defers hf hb (wp_seq (wp_mono (wpIn_wide.1 (h none [] _ (args0_mt hN))) fun e a w q => ?_))
 cases e with
 | exit i => obtain ⟨_,_,q⟩ := q; exact q.elim
 | ret => obtain ⟨_,_,q⟩ := q; exact q.elim
 | goto l => exact q.elim
 | panic c => exact q.2.elim
 | outgrown => exact q.elim
 | normal =>
  obtain ⟨t,hM,S,E,hw,hp⟩ := q
  refine wp_seq (wp_region ?_)
  have hev : a.eval = ev t := hM.eval
  have hex : (execOp a.eval dop).run P w = .ok (.defer { target := .fn (.func g) #[],args := xs.map (ev t) }) w := by
   obtain ⟨dst,op,ty,pos,after,guard⟩ := dop
   simp only at hd
   subst hd
   simp [execOp,resolve,Deferred.ofValue,hev,ev]
  have hwant : Region.wanted dop (yielded #[dop] a.tmps) = true := by unfold Region.wanted; rw [hgd]
  show wpOps P #[dop] _ [0] a w
  simp only [wpOps]
  simp only [List.getElem?_toArray,List.getElem?_cons_zero,hwant,if_true]
  unfold Oper.wp
  refine .inl ?_
  rw [hex]
  show Code.wp P rest _ _ w
  rw [hds]
  have hM' : Mt ⟨fn.ntmps,S,t⟩ [{ target := .fn (.func g) #[],args := xs.map (ev t) }] (({ a with defers := { target := .fn (.func g) #[],args := xs.map (ev t) } :: a.defers } : Act).put none undef) t := by
   obtain ⟨h1,h2,h3,-⟩ := hM
   exact ⟨h1,by show _ :: a.defers = _; rw [h2],h3,fun i _ => rfl⟩
  have fin : ∀ {N : Fm} {t' : Tm} {a' : Act} {w' : World} {u : FrameMode},Mt N [{ target := .fn (.func g) #[],args := xs.map (ev t) }] a' t' -> u ≠ .run ->
    dcl P g (xs.map (ev t)) u w' (fun w'' => resL P t' w'' fn.results.toList fun vs => K (tupV vs) w'') -> Leaves P fn a'.tmps (rt K) a'.defers u w' := by
   intro N t' a' w' u hM hu hq
   rw [hM.2.1]
   refine leaves_one hg hu (hq.mono fun w'' q => ?_)
   obtain ⟨vs,hk,hr⟩ := run_results hM q
   exact ⟨_,hr,_,rfl,hk⟩
  refine wp_mono (wpIn_wide.1 (@W.mono ⟨E⟩ _ _ _ _ _ _ _ hw (fun _ _ _ q => q) none _ _ hM')) fun e a' w' q => ?_
  cases e with
  | normal => obtain ⟨t',hM2,q⟩ := q; exact fin hM2 (by simp) q
  | ret => obtain ⟨t',hM2,q⟩ := q; exact fin hM2 (by simp) q
  | exit i => obtain ⟨_,_,q⟩ := q; exact q.elim
  | goto l => exact q.elim
  | panic c =>
   obtain ⟨⟨t',hM2⟩,he⟩ := q
   exact fin hM2 (by simp) ((hp _ _ he).mono fun w'' k => k t' fun i hi => hM2.2.2.2 i hi)
  | outgrown => exact q.elim
end
end Go.Sh
