/- Own text: part of the shallow reading of the code and of the contracts that are proved over it. -/
import Derived.Test.YtilenpnpnbdndaaGreatDoorShDf
import Derived.KernelRfl
import Derived.Test.YtilenpnpnbdndaaGreatDoorRtB
namespace Go.Proofs.YtilenpnpnbdndaaGreatDoor
open Go Go.Sh
set_option maxRecDepth 100000
set_option maxHeartbeats 4000000
attribute [local instance] Esc.none
noncomputable def F15_code : Code := Tryz.f15.body.getD .skip
theorem F15_code_ok : okC Tryz.prog Tryz.f15.ntmps F15_code = true := by kernel_rfl
def F15_1C (Kn : Value -> Value -> Value -> Value -> World -> Prop) (Kr : Value -> Value -> World -> Prop) : Post := fun o t w => match o with | .normal => Kn (t 4) (t 5) (t 6) (t 7) w | .exit _ => (False) | .ret => Kr (t 2) (t 3) w
def F15_1 (Kn : Value -> Value -> Value -> Value -> World -> Prop) (Kr : Value -> Value -> World -> Prop) (x4 : Value) (x5 : Value) (x6 : Value) (x7 : Value) (w : World) : Prop :=
 rdS x4 fun s1 => rdC x5 fun l2a l2n l2c => rdC x6 fun l3a l3n l3c => rdI .i64 x7 fun n4 => ixS 1 l2a l2n n4 fun a5 => ldI .i64 a5 w fun n6 => Calls Tryz.prog 30 #[(.int .i64 n6)] w (en fun e8 w7 => ∃ b9,e8 = .returned (.bool b9) /\ (br (!b9) (Kr (.string ⟨#[]⟩) (.int .i64 1) w7) (drw w7 fun w10 => ∃ w11 : World,Pres w11 w10 /\ (cat s1 ⟨#[32]⟩ fun s12 => ixS 1 l3a l3n n4 fun a13 => ldS a13 w11 fun s14 => cat s12 s14 fun s15 => cat s15 ⟨#[32]⟩ fun s16 => ixS 1 l2a l2n n4 fun a17 => ldI .i64 a17 w10 fun n18 => Calls Tryz.prog 44 #[(.int .i64 n18)] w10 (en fun e20 w19 => ∃ s21,e20 = .returned (.string s21) /\ (Pres w11 w19 /\ (cat s16 s21 fun s22 => Kn (.string s22) (.slice l2a l2n l2c) (.slice l3a l3n l3c) (.int .i64 (IntKind.wrap .i64 (n4 + 1))) w19)))))))
def F15_1O (Q : Post) (t : Tm) (w : World) : Prop := F15_1 (fun y4 y5 y6 y7 w => ∀ g,rsh [(4,(.one .str)),(5,(.one .slc)),(6,(.one .slc)),(7,(.one (.int .i64)))] (upds g [(4,y4),(5,y5),(6,y6),(7,y7)]) fun t => Q .normal t w) (fun y2 y3 w => ∀ g,rsh [(2,(.one .str)),(3,(.one (.int .i64)))] (upds g [(2,y2),(3,y3)]) fun t => Q .ret t w) (t 4) (t 5) (t 6) (t 7) w
theorem F15_1_step (Kn : Value -> Value -> Value -> Value -> World -> Prop) (Kr : Value -> Value -> World -> Prop) (t : Tm) (w : World) : (F15_1 Kn Kr (t 4) (t 5) (t 6) (t 7) w) = rsh [(4,(.one .str)),(5,(.one .slc)),(6,(.one .slc)),(7,(.one (.int .i64)))] t (fun t => vc Tryz.prog (orcOf []) [1,0,0,1,0,1,1,1] (getAt F15_code [1,0,0,1,0,1,1,1]) (F15_1C Kn Kr) t w) := by kernel_rfl
theorem F15_1_ok : ∀ Q t w,F15_1O Q t w -> W Tryz.prog Tryz.f15.ntmps (getAt F15_code [1,0,0,1,0,1,1,1]) Q t w := by
 intro Q t w h
 unfold F15_1O at h
 rw [F15_1_step] at h
 refine (vc_sound mixed (orcNil F15_code) _ _ rfl (okC_at F15_code_ok [1,0,0,1,0,1,1,1]) _ _ _ (rsh_out h)).mono ?_
 intro o t w q
 cases o with
 | normal => exact out_ok [4,5,6,7] q
 | exit i => exact q.elim
 | ret => exact out_ok [2,3] q
def F15_2C (K0 : Value -> World -> Prop) (Kr : Value -> Value -> World -> Prop) : Post := fun o t w => match o with | .normal => False | .exit i => (match Nat.beq i 0 with | true => K0 (t 4) w | false => False) | .ret => Kr (t 2) (t 3) w
def F15_2B (R : Value -> Value -> Value -> Value -> World -> Prop) (K0 : Value -> World -> Prop) (Kr : Value -> Value -> World -> Prop) (x4 : Value) (x5 : Value) (x6 : Value) (x7 : Value) (w : World) : Prop :=
 rdS x4 fun s1 => rdC x5 fun l2a l2n l2c => rdC x6 fun l3a l3n l3c => rdI .i64 x7 fun n4 => br (decide ((n4 : Int) < (l2n : Int))) (br (decide ((n4 : Int) < (l3n : Int))) (F15_1 (fun y4_4 y5_4 y6_4 y7_4 w6 => ∀ _g7 : Tm,rdS y4_4 fun s8 => rdC y5_4 fun l9a l9n l9c => rdC y6_4 fun l10a l10n l10c => rdI .i64 y7_4 fun n11 => R (.string s8) (.slice l9a l9n l9c) (.slice l10a l10n l10c) (.int .i64 n11) w6) (fun y2_11 y3_11 w13 => ∀ _g14 : Tm,rdS y2_11 fun s15 => rdI .i64 y3_11 fun n16 => Kr (.string s15) (.int .i64 n16) w13) (.string s1) (.slice l2a l2n l2c) (.slice l3a l3n l3c) (.int .i64 n4) w) (K0 (.string s1) w)) (K0 (.string s1) w)
def F15_2 (K0 : Value -> World -> Prop) (Kr : Value -> Value -> World -> Prop) : Nat -> Value -> Value -> Value -> Value -> World -> Prop
 | 0 => fun _ _ _ _ _ => False
 | n + 1 => F15_2B (F15_2 K0 Kr n) K0 Kr
def F15_2O (Q : Post) (t : Tm) (w : World) : Prop := ∃ n,F15_2 (fun y4 w => ∀ g,rsh [(4,(.one .str))] (upds g [(4,y4)]) fun t => Q (.exit 0) t w) (fun y2 y3 w => ∀ g,rsh [(2,(.one .str)),(3,(.one (.int .i64)))] (upds g [(2,y2),(3,y3)]) fun t => Q .ret t w) n (t 4) (t 5) (t 6) (t 7) w
theorem F15_2_step (K0 : Value -> World -> Prop) (Kr : Value -> Value -> World -> Prop) (n : Nat) (t : Tm) (w : World) : (F15_2 K0 Kr (n + 1) (t 4) (t 5) (t 6) (t 7) w) = rsh [(4,(.one .str)),(5,(.one .slc)),(6,(.one .slc)),(7,(.one (.int .i64)))] t (fun t => vc Tryz.prog (orcOf [([1,0,0,1,0,1,1,1],F15_1O)]) [0,0,1,0,1,1,1] (getAt F15_code [0,0,1,0,1,1,1]) (fun o t w => match o with | .normal => F15_2 K0 Kr n (t 4) (t 5) (t 6) (t 7) w | .exit i => F15_2C K0 Kr (.exit i) t w | .ret => F15_2C K0 Kr .ret t w) t w) := by kernel_rfl
theorem F15_2_ok : ∀ Q t w,F15_2O Q t w -> W Tryz.prog Tryz.f15.ntmps (getAt F15_code [0,1,0,1,1,1]) Q t w := by
 intro Q t w ⟨n,h⟩
 refine (W_loop (P := Tryz.prog) (b := getAt F15_code [0,0,1,0,1,1,1]) (Q := F15_2C (fun y4 w => ∀ g,rsh [(4,(.one .str))] (upds g [(4,y4)]) fun t => Q (.exit 0) t w) (fun y2 y3 w => ∀ g,rsh [(2,(.one .str)),(3,(.one (.int .i64)))] (upds g [(2,y2),(3,y3)]) fun t => Q .ret t w)) (G := fun n t w => F15_2 (fun y4 w => ∀ g,rsh [(4,(.one .str))] (upds g [(4,y4)]) fun t => Q (.exit 0) t w) (fun y2 y3 w => ∀ g,rsh [(2,(.one .str)),(3,(.one (.int .i64)))] (upds g [(2,y2),(3,y3)]) fun t => Q .ret t w) n (t 4) (t 5) (t 6) (t 7) w) (fun _ _ h => h) (fun n t w h => ?_) n t w h).mono ?_
 ·rw [F15_2_step] at h
  exact vc_sound mixed (orcCons (π := [1,0,0,1,0,1,1,1]) F15_1_ok (orcNil F15_code)) _ _ rfl (okC_at F15_code_ok [0,0,1,0,1,1,1]) _ _ _ (rsh_out h)
 ·intro o t w q
  cases o with
  | normal => exact q.elim
  | exit i =>
   unfold F15_2C at q
   simp only at q
   split at q
   ·rename_i hi
    rw [nbeq] at hi
    subst hi
    exact out_ok [4] q
   ·exact q.elim
  | ret => exact out_ok [2,3] q
def F15_3C (Kr : Value -> Value -> World -> Prop) : Post := fun o t w => match o with | .normal => False | .exit _ => (False) | .ret => Kr (t 2) (t 3) w
def F15_3 (Kr : Value -> Value -> World -> Prop) (x1 : Value) (x4 : Value) (w : World) : Prop :=
 rdA x1 fun a1 => rdS x4 fun s2 => ldR49 a1 w fun s3 => Calls Tryz.prog 42 #[s3.v] w (en fun e5 w4 => ∃ l6a l6n l6c,e5 = .returned (.slice l6a l6n l6c) /\ (Calls Tryz.prog 43 #[] w4 (en fun e8 w7 => ∃ l9a l9n l9c,e8 = .returned (.slice l9a l9n l9c) /\ (∃ k19 : Nat,F15_2 (fun y4_9 w11 => ∀ _g12 : Tm,rdS y4_9 fun s13 => Kr (.string s13) (.int .i64 0) w11) (fun y2_13 y3_13 w15 => ∀ _g16 : Tm,rdS y2_13 fun s17 => rdI .i64 y3_13 fun n18 => Kr (.string s17) (.int .i64 n18) w15) k19 (.string s2) (.slice l6a l6n l6c) (.slice l9a l9n l9c) (.int .i64 0) w7))))
def F15_3O (Q : Post) (t : Tm) (w : World) : Prop := F15_3 (fun y2 y3 w => ∀ g,rsh [(2,(.one .str)),(3,(.one (.int .i64)))] (upds g [(2,y2),(3,y3)]) fun t => Q .ret t w) (t 1) (t 4) w
theorem F15_3_step (Kr : Value -> Value -> World -> Prop) (t : Tm) (w : World) : (F15_3 Kr (t 1) (t 4) w) = rsh [(1,(.one .adr)),(4,(.one .str))] t (fun t => vc Tryz.prog (orcOf [([1,0,0,1,0,1,1,1],F15_1O),([0,1,0,1,1,1],F15_2O)]) [1,1] (getAt F15_code [1,1]) (F15_3C Kr) t w) := by kernel_rfl
theorem F15_3_ok : ∀ Q t w,F15_3O Q t w -> W Tryz.prog Tryz.f15.ntmps (getAt F15_code [1,1]) Q t w := by
 intro Q t w h
 unfold F15_3O at h
 rw [F15_3_step] at h
 refine (vc_sound mixed (orcCons (π := [1,0,0,1,0,1,1,1]) F15_1_ok (orcCons (π := [0,1,0,1,1,1]) F15_2_ok (orcNil F15_code))) _ _ rfl (okC_at F15_code_ok [1,1]) _ _ _ (rsh_out h)).mono ?_
 intro o t w q
 cases o with
 | normal => exact q.elim
 | exit i => exact q.elim
 | ret => exact out_ok [2,3] q
def F15 (x0 : Value) (w : World) (K : Value -> World -> Prop) : Prop :=
 exR49 fun s1 => x0 = s1.v /\ (alc (.cells s1.c 50) w fun b2 w3 => drw w3 fun w4 => ldI .u64 (((Addr.mk b2 0 none).add 0).add 16) w4 fun n5 => ((Calls Tryz.prog 40 #[(.int .u64 n5),(.int .i64 10)] w4 (en fun e7 w6 => ∃ s8,e7 = .returned (.string s8) /\ (cat ⟨#[99,111,110,102,32,115,101,101,100,32]⟩ s8 fun s9 => cat s9 ⟨#[32,107,101,121,32]⟩ fun s10 => ∃ l11a l11n l11c,∃ w12,Sem.run Tryz.prog (Instr.sliceAt 41 (.pointer (some (((Addr.mk b2 0 none).add 0).add 0))) none none none) w6 = .ok (.slice l11a l11n l11c) w12 /\ (Pres w4 w12 /\ (Calls Tryz.prog 41 #[(.slice l11a l11n l11c)] w12 (en fun e14 w13 => ∃ s15,e14 = .returned (.string s15) /\ (cat s10 s15 fun s16 => F15_3 (fun y2_16 y3_16 w18 => ∀ _g19 : Tm,rdS y2_16 fun s20 => rdI .i64 y3_16 fun n21 => K (.tuple #[(.string s20),(.int .i64 n21)]) w18) (.pointer (some (Addr.mk b2 0 none))) (.string s16) w13))))))) /\ (∃ l22a l22n l22c,∃ w23,Sem.run Tryz.prog (Instr.sliceAt 41 (.pointer (some (((Addr.mk b2 0 none).add 0).add 0))) none none none) w4 = .ok (.slice l22a l22n l22c) w23 /\ (Pres w4 w23 /\ (Calls Tryz.prog 40 #[(.int .u64 n5),(.int .i64 10)] w23 (en fun e25 w24 => ∃ s26,e25 = .returned (.string s26) /\ (cat ⟨#[99,111,110,102,32,115,101,101,100,32]⟩ s26 fun s27 => cat s27 ⟨#[32,107,101,121,32]⟩ fun s28 => Calls Tryz.prog 41 #[(.slice l22a l22n l22c)] w24 (en fun e30 w29 => ∃ s31,e30 = .returned (.string s31) /\ (cat s28 s31 fun s32 => F15_3 (fun y2_32 y3_32 w34 => ∀ _g35 : Tm,rdS y2_32 fun s36 => rdI .i64 y3_32 fun n37 => K (.tuple #[(.string s36),(.int .i64 n37)]) w34) (.pointer (some (Addr.mk b2 0 none))) (.string s32) w29)))))))))
theorem F15_step (x0 : Value) (w : World) (K : Value -> World -> Prop) : (F15 x0 w K) = rsh [(0,(.agg [(.int .u8),(.int .u8),(.int .u8),(.int .u8),(.int .u8),(.int .u8),(.int .u8),(.int .u8),(.int .u8),(.int .u8),(.int .u8),(.int .u8),(.int .u8),(.int .u8),(.int .u8),(.int .u8),(.int .u64),(.int .i64),(.int .u32),(.int .u16),(.int .u16),(.int .i64),(.int .i64),(.int .u16),(.int .u16),(.int .i64),(.int .i64),(.int .i64),(.int .i64),(.int .i64),(.int .i64),(.int .i64),(.int .i64),(.int .i64),(.int .i64),(.int .i64),(.int .i64),(.int .i64),.bool,.bool,.bool]))] (args0 #[x0]) (fun t => vc Tryz.prog (orcOf [([1,0,0,1,0,1,1,1],F15_1O),([0,1,0,1,1,1],F15_2O),([1,1],F15_3O)]) [] F15_code (retQ Tryz.prog Tryz.f15 K) t w) := by kernel_rfl
theorem F15_ok {x0 : Value} {w : World} {K : Value -> World -> Prop} (h : F15 x0 w K) : Calls Tryz.prog 15 #[x0] w (rt K) := by
 rw [F15_step] at h
 exact Calls.mono (calls_of (c := F15_code) mixed Tryz.func15 rfl (nlt rfl) (vc_sound mixed (orcCons (π := [1,0,0,1,0,1,1,1]) F15_1_ok (orcCons (π := [0,1,0,1,1,1]) F15_2_ok (orcCons (π := [1,1]) F15_3_ok (orcNil F15_code)))) F15_code [] rfl F15_code_ok _ _ _ (rsh_out h))) fun _ _ => rv_none
noncomputable def F17_code : Code := Tryz.f17.body.getD .skip
theorem F17_code_ok : okC Tryz.prog Tryz.f17.ntmps F17_code = true := by kernel_rfl
def F17_1C (K2 : Value -> Value -> Value -> Value -> World -> Prop) : Post := fun o t w => match o with | .normal => False | .exit i => (match Nat.beq i 2 with | true => K2 (t 0) (t 2) (t 5) (t 8) w | false => False) | .ret => False
def F17_1B (R : Value -> Value -> Value -> Value -> Value -> Value -> World -> Prop) (K2 : Value -> Value -> Value -> Value -> World -> Prop) (x0 : Value) (x2 : Value) (x4 : Value) (x5 : Value) (x8 : Value) (x9 : Value) (w : World) : Prop :=
 rdS x0 fun s1 => rdA x2 fun a2 => rdC x4 fun l3a l3n l3c => rdA x5 fun a4 => rdC x8 fun l5a l5n l5c => rdI .i64 x9 fun n6 => br (decide ((n6 : Int) < 24)) (ixS 1 l3a l3n (IntKind.wrap .i64 (6 + (IntKind.wrap .i64 (2 * n6)))) fun a7 => ldS a7 w fun s8 => Calls Tryz.prog 37 #[(.string s8)] w (en fun e10 w9 => ∃ n11,e10 = .returned (.int .u64 n11) /\ (ixS 1 l5a l5n n6 fun a12 => stc a12 (.int .i64 (IntKind.wrap .i64 ((Int.tmod n11 4398046511104)))) w9 fun w13 => R (.string s1) (.pointer (some a2)) (.slice l3a l3n l3c) (.pointer (some a4)) (.slice l5a l5n l5c) (.int .i64 (IntKind.wrap .i64 (n6 + 1))) w13))) (K2 (.string s1) (.pointer (some a2)) (.pointer (some a4)) (.slice l5a l5n l5c) w)
def F17_1 (K2 : Value -> Value -> Value -> Value -> World -> Prop) : Nat -> Value -> Value -> Value -> Value -> Value -> Value -> World -> Prop
 | 0 => fun _ _ _ _ _ _ _ => False
 | n + 1 => F17_1B (F17_1 K2 n) K2
def F17_1O (Q : Post) (t : Tm) (w : World) : Prop := ∃ n,F17_1 (fun y0 y2 y5 y8 w => ∀ g,rsh [(0,(.one .str)),(2,(.one .adr)),(5,(.one .adr)),(8,(.one .slc))] (upds g [(0,y0),(2,y2),(5,y5),(8,y8)]) fun t => Q (.exit 2) t w) n (t 0) (t 2) (t 4) (t 5) (t 8) (t 9) w
theorem F17_1_step (K2 : Value -> Value -> Value -> Value -> World -> Prop) (n : Nat) (t : Tm) (w : World) : (F17_1 K2 (n + 1) (t 0) (t 2) (t 4) (t 5) (t 8) (t 9) w) = rsh [(0,(.one .str)),(2,(.one .adr)),(4,(.one .slc)),(5,(.one .adr)),(8,(.one .slc)),(9,(.one (.int .i64)))] t (fun t => vc Tryz.prog (orcOf []) [0,0,1,0,1,1,1,1,1,1,1,1] (getAt F17_code [0,0,1,0,1,1,1,1,1,1,1,1]) (fun o t w => match o with | .normal => F17_1 K2 n (t 0) (t 2) (t 4) (t 5) (t 8) (t 9) w | .exit i => F17_1C K2 (.exit i) t w | .ret => F17_1C K2 .ret t w) t w) := by kernel_rfl
theorem F17_1_ok : ∀ Q t w,F17_1O Q t w -> W Tryz.prog Tryz.f17.ntmps (getAt F17_code [0,1,0,1,1,1,1,1,1,1,1]) Q t w := by
 intro Q t w ⟨n,h⟩
 refine (W_loop (P := Tryz.prog) (b := getAt F17_code [0,0,1,0,1,1,1,1,1,1,1,1]) (Q := F17_1C (fun y0 y2 y5 y8 w => ∀ g,rsh [(0,(.one .str)),(2,(.one .adr)),(5,(.one .adr)),(8,(.one .slc))] (upds g [(0,y0),(2,y2),(5,y5),(8,y8)]) fun t => Q (.exit 2) t w)) (G := fun n t w => F17_1 (fun y0 y2 y5 y8 w => ∀ g,rsh [(0,(.one .str)),(2,(.one .adr)),(5,(.one .adr)),(8,(.one .slc))] (upds g [(0,y0),(2,y2),(5,y5),(8,y8)]) fun t => Q (.exit 2) t w) n (t 0) (t 2) (t 4) (t 5) (t 8) (t 9) w) (fun _ _ h => h) (fun n t w h => ?_) n t w h).mono ?_
 ·rw [F17_1_step] at h
  exact vc_sound mixed (orcNil F17_code) _ _ rfl (okC_at F17_code_ok [0,0,1,0,1,1,1,1,1,1,1,1]) _ _ _ (rsh_out h)
 ·intro o t w q
  cases o with
  | normal => exact q.elim
  | exit i =>
   unfold F17_1C at q
   simp only at q
   split at q
   ·rename_i hi
    rw [nbeq] at hi
    subst hi
    exact out_ok [0,2,5,8] q
   ·exact q.elim
  | ret => exact q.elim
def F17_2C (Kn : Value -> Value -> Value -> Value -> Value -> Value -> World -> Prop) : Post := fun o t w => match o with | .normal => Kn (t 0) (t 2) (t 4) (t 5) (t 6) (t 7) w | .exit _ => (False) | .ret => False
def F17_2 (Kn : Value -> Value -> Value -> Value -> Value -> Value -> World -> Prop) (x0 : Value) (x2 : Value) (x4 : Value) (x5 : Value) (x6 : Value) (x7 : Value) (w : World) : Prop :=
 rdS x0 fun s1 => rdA x2 fun a2 => rdC x4 fun l3a l3n l3c => rdA x5 fun a4 => rdC x6 fun l5a l5n l5c => rdI .i64 x7 fun n6 => ixS 1 l5a l5n n6 fun a7 => ldI .u8 a7 w fun n8 => ixA 1 16 ((a4.add 0).add 0) n6 fun a9 => stc a9 (.int .u8 n8) w fun w10 => Kn (.string s1) (.pointer (some a2)) (.slice l3a l3n l3c) (.pointer (some a4)) (.slice l5a l5n l5c) (.int .i64 (IntKind.wrap .i64 (n6 + 1))) w10
def F17_2O (Q : Post) (t : Tm) (w : World) : Prop := F17_2 (fun y0 y2 y4 y5 y6 y7 w => ∀ g,rsh [(0,(.one .str)),(2,(.one .adr)),(4,(.one .slc)),(5,(.one .adr)),(6,(.one .slc)),(7,(.one (.int .i64)))] (upds g [(0,y0),(2,y2),(4,y4),(5,y5),(6,y6),(7,y7)]) fun t => Q .normal t w) (t 0) (t 2) (t 4) (t 5) (t 6) (t 7) w
theorem F17_2_step (Kn : Value -> Value -> Value -> Value -> Value -> Value -> World -> Prop) (t : Tm) (w : World) : (F17_2 Kn (t 0) (t 2) (t 4) (t 5) (t 6) (t 7) w) = rsh [(0,(.one .str)),(2,(.one .adr)),(4,(.one .slc)),(5,(.one .adr)),(6,(.one .slc)),(7,(.one (.int .i64)))] t (fun t => vc Tryz.prog (orcOf []) [1,0,0,1,0,1,1,1,1,1,1] (getAt F17_code [1,0,0,1,0,1,1,1,1,1,1]) (F17_2C Kn) t w) := by kernel_rfl
theorem F17_2_ok : ∀ Q t w,F17_2O Q t w -> W Tryz.prog Tryz.f17.ntmps (getAt F17_code [1,0,0,1,0,1,1,1,1,1,1]) Q t w := by
 intro Q t w h
 unfold F17_2O at h
 rw [F17_2_step] at h
 refine (vc_sound mixed (orcNil F17_code) _ _ rfl (okC_at F17_code_ok [1,0,0,1,0,1,1,1,1,1,1]) _ _ _ (rsh_out h)).mono ?_
 intro o t w q
 cases o with
 | normal => exact out_ok [0,2,4,5,6,7] q
 | exit i => exact q.elim
 | ret => exact q.elim
def F17_3C (K0 : Value -> Value -> Value -> Value -> World -> Prop) : Post := fun o t w => match o with | .normal => False | .exit i => (match Nat.beq i 0 with | true => K0 (t 0) (t 2) (t 4) (t 5) w | false => False) | .ret => False
def F17_3B (R : Value -> Value -> Value -> Value -> Value -> Value -> World -> Prop) (K0 : Value -> Value -> Value -> Value -> World -> Prop) (x0 : Value) (x2 : Value) (x4 : Value) (x5 : Value) (x6 : Value) (x7 : Value) (w : World) : Prop :=
 rdS x0 fun s1 => rdA x2 fun a2 => rdC x4 fun l3a l3n l3c => rdA x5 fun a4 => rdC x6 fun l5a l5n l5c => rdI .i64 x7 fun n6 => br (decide ((n6 : Int) < (l5n : Int))) (br (decide ((n6 : Int) < 16)) (F17_2 (fun y0_6 y2_6 y4_6 y5_6 y6_6 y7_6 w8 => ∀ _g9 : Tm,rdS y0_6 fun s10 => rdA y2_6 fun a11 => rdC y4_6 fun l12a l12n l12c => rdA y5_6 fun a13 => rdC y6_6 fun l14a l14n l14c => rdI .i64 y7_6 fun n15 => R (.string s10) (.pointer (some a11)) (.slice l12a l12n l12c) (.pointer (some a13)) (.slice l14a l14n l14c) (.int .i64 n15) w8) (.string s1) (.pointer (some a2)) (.slice l3a l3n l3c) (.pointer (some a4)) (.slice l5a l5n l5c) (.int .i64 n6) w) (K0 (.string s1) (.pointer (some a2)) (.slice l3a l3n l3c) (.pointer (some a4)) w)) (K0 (.string s1) (.pointer (some a2)) (.slice l3a l3n l3c) (.pointer (some a4)) w)
def F17_3 (K0 : Value -> Value -> Value -> Value -> World -> Prop) : Nat -> Value -> Value -> Value -> Value -> Value -> Value -> World -> Prop
 | 0 => fun _ _ _ _ _ _ _ => False
 | n + 1 => F17_3B (F17_3 K0 n) K0
def F17_3O (Q : Post) (t : Tm) (w : World) : Prop := ∃ n,F17_3 (fun y0 y2 y4 y5 w => ∀ g,rsh [(0,(.one .str)),(2,(.one .adr)),(4,(.one .slc)),(5,(.one .adr))] (upds g [(0,y0),(2,y2),(4,y4),(5,y5)]) fun t => Q (.exit 0) t w) n (t 0) (t 2) (t 4) (t 5) (t 6) (t 7) w
theorem F17_3_step (K0 : Value -> Value -> Value -> Value -> World -> Prop) (n : Nat) (t : Tm) (w : World) : (F17_3 K0 (n + 1) (t 0) (t 2) (t 4) (t 5) (t 6) (t 7) w) = rsh [(0,(.one .str)),(2,(.one .adr)),(4,(.one .slc)),(5,(.one .adr)),(6,(.one .slc)),(7,(.one (.int .i64)))] t (fun t => vc Tryz.prog (orcOf [([1,0,0,1,0,1,1,1,1,1,1],F17_2O)]) [0,0,1,0,1,1,1,1,1,1] (getAt F17_code [0,0,1,0,1,1,1,1,1,1]) (fun o t w => match o with | .normal => F17_3 K0 n (t 0) (t 2) (t 4) (t 5) (t 6) (t 7) w | .exit i => F17_3C K0 (.exit i) t w | .ret => F17_3C K0 .ret t w) t w) := by kernel_rfl
theorem F17_3_ok : ∀ Q t w,F17_3O Q t w -> W Tryz.prog Tryz.f17.ntmps (getAt F17_code [0,1,0,1,1,1,1,1,1]) Q t w := by
 intro Q t w ⟨n,h⟩
 refine (W_loop (P := Tryz.prog) (b := getAt F17_code [0,0,1,0,1,1,1,1,1,1]) (Q := F17_3C (fun y0 y2 y4 y5 w => ∀ g,rsh [(0,(.one .str)),(2,(.one .adr)),(4,(.one .slc)),(5,(.one .adr))] (upds g [(0,y0),(2,y2),(4,y4),(5,y5)]) fun t => Q (.exit 0) t w)) (G := fun n t w => F17_3 (fun y0 y2 y4 y5 w => ∀ g,rsh [(0,(.one .str)),(2,(.one .adr)),(4,(.one .slc)),(5,(.one .adr))] (upds g [(0,y0),(2,y2),(4,y4),(5,y5)]) fun t => Q (.exit 0) t w) n (t 0) (t 2) (t 4) (t 5) (t 6) (t 7) w) (fun _ _ h => h) (fun n t w h => ?_) n t w h).mono ?_
 ·rw [F17_3_step] at h
  exact vc_sound mixed (orcCons (π := [1,0,0,1,0,1,1,1,1,1,1]) F17_2_ok (orcNil F17_code)) _ _ rfl (okC_at F17_code_ok [0,0,1,0,1,1,1,1,1,1]) _ _ _ (rsh_out h)
 ·intro o t w q
  cases o with
  | normal => exact q.elim
  | exit i =>
   unfold F17_3C at q
   simp only at q
   split at q
   ·rename_i hi
    rw [nbeq] at hi
    subst hi
    exact out_ok [0,2,4,5] q
   ·exact q.elim
  | ret => exact q.elim
def F17 (x0 : Value) (w : World) (K : Value -> World -> Prop) : Prop :=
 rdS x0 fun s1 => alc (.cells ((R49.mk 0 0 0 0 0 0 0 0 0 0 0 0 0 0 0 0 0 0 0 0 0 0 0 0 0 0 0 0 0 0 0 0 0 0 0 0 0 0 false false false)).c 50) w fun b2 w3 => Calls Tryz.prog 35 #[(.string s1)] w3 (en fun e5 w4 => ∃ l6a l6n l6c,e5 = .returned (.slice l6a l6n l6c) /\ (br ((l6n : Int) != 53) (stcL (Addr.mk b2 0 none) 0 (R49.mk 0 0 0 0 0 0 0 0 0 0 0 0 0 0 0 0 0 0 0 0 0 0 0 0 0 0 0 0 0 0 0 0 0 0 0 0 0 0 false false false).l w4 fun w7 => ldR49 (Addr.mk b2 0 none) w7 fun s8 => K (.tuple #[s8.v,(.int .i64 250)]) w7) (alc (.cells ((R49.mk 0 0 0 0 0 0 0 0 0 0 0 0 0 0 0 0 0 0 0 0 0 0 0 0 0 0 0 0 0 0 0 0 0 0 0 0 0 0 false false false)).c 50) w4 fun b9 w10 => stcL (Addr.mk b9 0 none) 0 (R49.mk 0 0 0 0 0 0 0 0 0 0 0 0 0 0 0 0 0 0 0 0 0 0 0 0 0 0 0 0 0 0 0 0 0 0 0 0 0 0 false false false).l w10 fun w11 => ixS 1 l6a l6n 2 fun a12 => ldS a12 w11 fun s13 => Calls Tryz.prog 37 #[(.string s13)] w11 (en fun e15 w14 => ∃ n16,e15 = .returned (.int .u64 n16) /\ (stc (((Addr.mk b9 0 none).add 0).add 16) (.int .u64 n16) w14 fun w17 => ixS 1 l6a l6n 4 fun a18 => ldS a18 w17 fun s19 => Calls Tryz.prog 38 #[(.string s19)] w17 (en fun e21 w20 => ∃ l22a l22n l22c,e21 = .returned (.slice l22a l22n l22c) /\ (∃ k132 : Nat,F17_3 (fun y0_22 y2_22 y4_22 y5_22 w24 => ∀ _g25 : Tm,rdS y0_22 fun s26 => rdA y2_22 fun a27 => rdC y4_22 fun l28a l28n l28c => rdA y5_22 fun a29 => ∃ l30a l30n l30c,∃ w31,Sem.run Tryz.prog (Instr.makeSlice 96 (.int .i64 24) (.int .i64 24)) w24 = .ok (.slice l30a l30n l30c) w31 /\ (∃ k131 : Nat,F17_1 (fun y0_31 y2_31 y5_31 y8_31 w33 => ∀ _g34 : Tm,rdS y0_31 fun s35 => rdA y2_31 fun a36 => rdA y5_31 fun a37 => rdC y8_31 fun l38a l38n _ => drw w33 fun w39 => ∃ w40 : World,Pres w40 w39 /\ (ixS 1 l38a l38n 0 fun a41 => ldI .i64 a41 w39 fun n42 => ixS 1 l38a l38n 1 fun a43 => ldI .i64 a43 w40 fun n44 => ixS 1 l38a l38n 2 fun a45 => ldI .i64 a45 w40 fun n46 => ixS 1 l38a l38n 3 fun a47 => ldI .i64 a47 w40 fun n48 => stc ((a37.add 0).add 17) (.int .i64 n42) w39 fun w49 => Pres w40 w49 /\ (stc ((a37.add 0).add 18) (.int .u32 (IntKind.wrap .u32 (n44))) w49 fun w50 => Pres w40 w50 /\ (stc ((a37.add 0).add 19) (.int .u16 (IntKind.wrap .u16 (n46))) w50 fun w51 => Pres w40 w51 /\ (stc ((a37.add 0).add 20) (.int .u16 (IntKind.wrap .u16 (n48))) w51 fun w52 => drw w52 fun w53 => ∃ w54 : World,Pres w54 w53 /\ (ixS 1 l38a l38n 4 fun a55 => ldI .i64 a55 w53 fun n56 => ixS 1 l38a l38n 5 fun a57 => ldI .i64 a57 w54 fun n58 => ixS 1 l38a l38n 6 fun a59 => ldI .i64 a59 w54 fun n60 => ixS 1 l38a l38n 7 fun a61 => ldI .i64 a61 w54 fun n62 => stc ((a37.add 0).add 21) (.int .i64 n56) w53 fun w63 => Pres w54 w63 /\ (stc ((a37.add 0).add 22) (.int .i64 n58) w63 fun w64 => Pres w54 w64 /\ (stc ((a37.add 0).add 23) (.int .u16 (IntKind.wrap .u16 (n60))) w64 fun w65 => Pres w54 w65 /\ (stc ((a37.add 0).add 24) (.int .u16 (IntKind.wrap .u16 (n62))) w65 fun w66 => drw w66 fun w67 => ∃ w68 : World,Pres w68 w67 /\ (ixS 1 l38a l38n 8 fun a69 => ldI .i64 a69 w67 fun n70 => ixS 1 l38a l38n 9 fun a71 => ldI .i64 a71 w68 fun n72 => ixS 1 l38a l38n 10 fun a73 => ldI .i64 a73 w68 fun n74 => stc (a37.add 25) (.int .i64 n70) w67 fun w75 => Pres w68 w75 /\ (stc (a37.add 26) (.int .i64 n72) w75 fun w76 => Pres w68 w76 /\ (stc (a37.add 27) (.int .i64 n74) w76 fun w77 => drw w77 fun w78 => ixS 1 l38a l38n 11 fun a79 => ldI .i64 a79 w78 fun n80 => ixS 1 l38a l38n 12 fun a81 => ldI .i64 a81 w78 fun n82 => ixS 1 l38a l38n 13 fun a83 => ldI .i64 a83 w78 fun n84 => stcL (a37.add 28) 0 (R45.mk n80 n82 n84).l w78 fun w85 => drw w85 fun w86 => ixS 1 l38a l38n 14 fun a87 => ldI .i64 a87 w86 fun n88 => ixS 1 l38a l38n 15 fun a89 => ldI .i64 a89 w86 fun n90 => ixS 1 l38a l38n 16 fun a91 => ldI .i64 a91 w86 fun n92 => stcL (a37.add 31) 0 (R45.mk n88 n90 n92).l w86 fun w93 => drw w93 fun w94 => ∃ w95 : World,Pres w95 w94 /\ (ixS 1 l38a l38n 17 fun a96 => ldI .i64 a96 w94 fun n97 => ixS 1 l38a l38n 18 fun a98 => ldI .i64 a98 w95 fun n99 => ixS 1 l38a l38n 19 fun a100 => ldI .i64 a100 w95 fun n101 => ixS 1 l38a l38n 20 fun a102 => ldI .i64 a102 w95 fun n103 => stc (a37.add 34) (.int .i64 n97) w94 fun w104 => Pres w95 w104 /\ (stc (a37.add 35) (.int .i64 n99) w104 fun w105 => Pres w95 w105 /\ (stc (a37.add 36) (.int .i64 n101) w105 fun w106 => Pres w95 w106 /\ (stc (a37.add 37) (.int .i64 n103) w106 fun w107 => drw w107 fun w108 => ∃ w109 : World,Pres w109 w108 /\ (ixS 1 l38a l38n 21 fun a110 => ldI .i64 a110 w108 fun n111 => ixS 1 l38a l38n 22 fun a112 => ldI .i64 a112 w109 fun n113 => ixS 1 l38a l38n 23 fun a114 => ldI .i64 a114 w109 fun n115 => stc (a37.add 38) (.bool (n111 == 1)) w108 fun w116 => Pres w109 w116 /\ (stc (a37.add 39) (.bool (n113 == 1)) w116 fun w117 => Pres w109 w117 /\ (stc (a37.add 40) (.bool (n115 == 1)) w117 fun w118 => ldR49 a37 w118 fun s119 => Calls Tryz.prog 15 #[s119.v] w118 (en fun e121 w120 => ∃ s122,∃ n123,e121 = .returned (.tuple #[(.string s122),(.int .i64 n123)]) /\ (br (n123 != 0) (stcL a36 0 (R49.mk 0 0 0 0 0 0 0 0 0 0 0 0 0 0 0 0 0 0 0 0 0 0 0 0 0 0 0 0 0 0 0 0 0 0 0 0 0 0 false false false).l w120 fun w124 => ldR49 a36 w124 fun s125 => K (.tuple #[s125.v,(.int .i64 250)]) w124) (br (!(ByteArray.toList s122 == ByteArray.toList s35)) (stcL a36 0 (R49.mk 0 0 0 0 0 0 0 0 0 0 0 0 0 0 0 0 0 0 0 0 0 0 0 0 0 0 0 0 0 0 0 0 0 0 0 0 0 0 false false false).l w120 fun w126 => ldR49 a36 w126 fun s127 => K (.tuple #[s127.v,(.int .i64 250)]) w126) (ldR49 a37 w120 fun s128 => stcL a36 0 s128.l w120 fun w129 => ldR49 a36 w129 fun s130 => K (.tuple #[s130.v,(.int .i64 0)]) w129))))))))))))))))))))))) k131 (.string s26) (.pointer (some a27)) (.slice l28a l28n l28c) (.pointer (some a29)) (.slice l30a l30n l30c) (.int .i64 0) w31)) k132 (.string s1) (.pointer (some (Addr.mk b2 0 none))) (.slice l6a l6n l6c) (.pointer (some (Addr.mk b9 0 none))) (.slice l22a l22n l22c) (.int .i64 0) w20)))))))
theorem F17_step (x0 : Value) (w : World) (K : Value -> World -> Prop) : (F17 x0 w K) = rsh [(0,(.one .str))] (args0 #[x0]) (fun t => vc Tryz.prog (orcOf [([0,1,0,1,1,1,1,1,1,1,1],F17_1O),([1,0,0,1,0,1,1,1,1,1,1],F17_2O),([0,1,0,1,1,1,1,1,1],F17_3O)]) [] F17_code (retQ Tryz.prog Tryz.f17 K) t w) := by kernel_rfl
theorem F17_ok {x0 : Value} {w : World} {K : Value -> World -> Prop} (h : F17 x0 w K) : Calls Tryz.prog 17 #[x0] w (rt K) := by
 rw [F17_step] at h
 exact Calls.mono (calls_of (c := F17_code) mixed Tryz.func17 rfl (nlt rfl) (vc_sound mixed (orcCons (π := [0,1,0,1,1,1,1,1,1,1,1]) F17_1_ok (orcCons (π := [1,0,0,1,0,1,1,1,1,1,1]) F17_2_ok (orcCons (π := [0,1,0,1,1,1,1,1,1]) F17_3_ok (orcNil F17_code)))) F17_code [] rfl F17_code_ok _ _ _ (rsh_out h))) fun _ _ => rv_none
end Go.Proofs.YtilenpnpnbdndaaGreatDoor
namespace Go.Proofs.YtilenpnpnbdndaaGreatDoor
open Go Go.Sh
set_option maxRecDepth 100000
attribute [local instance] Esc.none
def intsOf (R : R49) : List Int := [R.f17,R.f18,R.f19,R.f20,R.f21,R.f22,R.f23,R.f24,R.f25,R.f26,R.f27,R.f28,R.f29,R.f30,R.f31,R.f32,R.f33,R.f34,R.f35,R.f36,R.f37,bitN R.f38,bitN R.f39,bitN R.f40]
def confNames : List ByteArray := [⟨#[108,105,102,101]⟩,⟨#[119,105,110,100,111,119]⟩,⟨#[111,117,116]⟩,⟨#[105,110]⟩,⟨#[116,114,105,101,115]⟩,⟨#[108,97,115,116,115]⟩,⟨#[112,111,114,116]⟩,⟨#[112,101,101,114]⟩,⟨#[112,97,116,104,115]⟩,⟨#[109,116,117]⟩,⟨#[98,117,102,102,101,114]⟩,⟨#[105,110,105,116]⟩,⟨#[109,105,110]⟩,⟨#[109,97,120]⟩,⟨#[101,114,114,111,114,115]⟩,⟨#[102,97,105,108]⟩,⟨#[112,97,117,115,101]⟩,⟨#[109,111,115,116]⟩,⟨#[100,101,108,97,121]⟩,⟨#[115,99,104,101,100]⟩,⟨#[99,97,112]⟩,⟨#[115,112,108,105,116]⟩,⟨#[110,114]⟩,⟨#[99,111,117,112,108,101]⟩]
def pairs : List ByteArray -> List Int -> List ByteArray
 | n :: ns,x :: xs => n :: dec x :: pairs ns xs
 | _,_ => []
def headOf (R : R49) : List ByteArray := [⟨#[99,111,110,102]⟩,⟨#[115,101,101,100]⟩,dec R.f16,⟨#[107,101,121]⟩,bs (hexW (keyAt R.c))]
def numOk (n : Int) : Prop := 0 <= n /\ n <= 1099511627776
instance (n : Int) : Decidable (numOk n) := by unfold numOk; infer_instance
theorem dec_bit (b : Bool) : dec (bitN b) = if b then ⟨#[49]⟩ else ⟨#[48]⟩ := by
 cases b
 ·show bs (Lib.decDigits 0) = _
  rw [Lib.decDigits,dif_pos (by omega)]
  rfl
 ·show bs (Lib.decDigits 1) = _
  rw [Lib.decDigits,dif_pos (by omega)]
  rfl
theorem conf_words (R : R49) : confItems.map (wd ⟨R.c,[]⟩) = headOf R ++ pairs confNames (intsOf R) := by
 have e : ∀ (b : Bool),(if b = true then (⟨#[49]⟩ : ByteArray) else ⟨#[48]⟩) = dec (bitN b) := fun b => (dec_bit b).symm
 show [_,_,_,_,_,_,_,_,_,_,_,_,_,_,_,_,_,_,_,_,_,_,_,_,_,_,_,_,_,_,_,_,_,_,_,_,_,_,_,_,_,_,_,_,_,_,_,_,(if R.f38 = true then (⟨#[49]⟩ : ByteArray) else ⟨#[48]⟩),_,(if R.f39 = true then (⟨#[49]⟩ : ByteArray) else ⟨#[48]⟩),_,(if R.f40 = true then (⟨#[49]⟩ : ByteArray) else ⟨#[48]⟩)] = _
 rw [e,e,e]
 rfl
theorem conf_ok {R : R49} (hG : GoodC R.c) : okAll confItems ⟨R.c,[]⟩ ↔ ∀ n ∈ intsOf R,numOk n := by
 obtain ⟨g16,g18,g19,g20,g23,g24,_⟩ := hG
 have g18 : 0 <= R.f18 /\ R.f18 <= 4294967295 := g18
 have g19 : 0 <= R.f19 /\ R.f19 <= 65535 := g19
 have g20 : 0 <= R.f20 /\ R.f20 <= 65535 := g20
 have g23 : 0 <= R.f23 /\ R.f23 <= 65535 := g23
 have g24 : 0 <= R.f24 /\ R.f24 <= 65535 := g24
 have hb : ∀ b,numOk (bitN b) := fun b => by cases b <;> decide
 constructor
 ·intro h
  have hi : ∀ (i o m : Nat) (k : IntKind),confItems[i]? = some (.num o k m) -> 0 <= iAt R.c o /\ iAt R.c o <= (m : Int) := fun i o m k e => h _ (List.mem_of_getElem? e)
  intro n hn
  simp only [intsOf,List.mem_cons,List.not_mem_nil,or_false] at hn
  rcases hn with rfl | rfl | rfl | rfl | rfl | rfl | rfl | rfl | rfl | rfl | rfl | rfl | rfl | rfl | rfl | rfl | rfl | rfl | rfl | rfl | rfl | rfl | rfl | rfl
  ·exact hi 6 17 _ _ rfl
  ·exact ⟨g18.1,by omega⟩
  ·exact ⟨g19.1,by omega⟩
  ·exact ⟨g20.1,by omega⟩
  ·exact hi 14 21 _ _ rfl
  ·exact hi 16 22 _ _ rfl
  ·exact ⟨g23.1,by omega⟩
  ·exact ⟨g24.1,by omega⟩
  ·exact hi 22 25 _ _ rfl
  ·exact hi 24 26 _ _ rfl
  ·exact hi 26 27 _ _ rfl
  ·exact hi 28 28 _ _ rfl
  ·exact hi 30 29 _ _ rfl
  ·exact hi 32 30 _ _ rfl
  ·exact hi 34 31 _ _ rfl
  ·exact hi 36 32 _ _ rfl
  ·exact hi 38 33 _ _ rfl
  ·exact hi 40 34 _ _ rfl
  ·exact hi 42 35 _ _ rfl
  ·exact hi 44 36 _ _ rfl
  ·exact hi 46 37 _ _ rfl
  ·exact hb _
  ·exact hb _
  ·exact hb _
 ·intro h it hi
  simp only [intsOf,List.forall_mem_cons] at h
  obtain ⟨h17,_,_,_,h21,h22,_,_,h25,h26,h27,h28,h29,h30,h31,h32,h33,h34,h35,h36,h37,_⟩ := h
  simp only [confItems,List.mem_cons,List.not_mem_nil,or_false] at hi
  rcases hi with rfl | rfl | rfl | rfl | rfl | rfl | rfl | rfl | rfl | rfl | rfl | rfl | rfl | rfl | rfl | rfl | rfl | rfl | rfl | rfl | rfl | rfl | rfl | rfl | rfl | rfl | rfl | rfl | rfl | rfl | rfl | rfl | rfl | rfl | rfl | rfl | rfl | rfl | rfl | rfl | rfl | rfl | rfl | rfl | rfl | rfl | rfl | rfl | rfl | rfl | rfl | rfl | rfl
  all_goals first | trivial | assumption
section
variable {W w : World} {M : List HP}
theorem c43 (h : Hs W M w) : Calls Tryz.prog 43 #[] w (rt fun v w' => ∃ b,v = .slice (some ⟨b,0,none⟩) 24 24 /\ Hs W (pt b (.cells (nmV confNames) 9 (0,0)) :: M) w') := by
 refine F43_ok ?_
 unfold F43
 refine h.alc fun b w2 h2 => ?_
 exact ⟨b,rfl,h2⟩
theorem c42 {R : R49} (h : Hs W M w) (hG : GoodC R.c) : Calls Tryz.prog 42 #[R.v] w (rt fun v w' => ∃ b,v = .slice (some ⟨b,0,none⟩) 24 24 /\ Hs W (pt b (.cells (iV (intsOf R)).toArray 3 (0,0)) :: M) w') := by
 obtain ⟨_,g18,g19,g20,g23,g24,_⟩ := hG
 have g18 : 0 <= R.f18 /\ R.f18 <= 4294967295 := g18
 have g19 : 0 <= R.f19 /\ R.f19 <= 65535 := g19
 have g20 : 0 <= R.f20 /\ R.f20 <= 65535 := g20
 have g23 : 0 <= R.f23 /\ R.f23 <= 65535 := g23
 have g24 : 0 <= R.f24 /\ R.f24 <= 65535 := g24
 refine F42_ok ?_
 unfold F42
 refine exR49_of R ⟨rfl,?_⟩
 refine h.alc fun b w2 h2 => h2.drw fun w4 h4 => ⟨w4,Go.Sh.Pres.refl _,?_⟩
 refine h4.ldI 0 rfl rfl (h4.ldI 0 rfl rfl (h4.ldI 0 rfl rfl (h4.ldI 0 rfl rfl (h4.ldI 0 rfl rfl (h4.ldI 0 rfl rfl (h4.ldI 0 rfl rfl (h4.ldI 0 rfl rfl (h4.ldI 0 rfl rfl (h4.ldI 0 rfl rfl (h4.ldI 0 rfl rfl (h4.ldI 0 rfl rfl (h4.ldI 0 rfl rfl (h4.ldI 0 rfl rfl (h4.ldI 0 rfl rfl (h4.ldI 0 rfl rfl (h4.ldI 0 rfl rfl (h4.ldI 0 rfl rfl (h4.ldI 0 rfl rfl (h4.ldI 0 rfl rfl (h4.ldI 0 rfl rfl ?_))))))))))))))))))))
 refine h4.ldB 0 rfl rfl (h4.ldB 0 rfl rfl (h4.ldB 0 rfl rfl ?_))
 refine clr c64 ⟨_,rfl,Go.Sh.Pres.refl _,?_⟩
 refine clr c64 ⟨_,rfl,Go.Sh.Pres.refl _,?_⟩
 refine clr c64 ⟨_,rfl,Go.Sh.Pres.refl _,?_⟩
 have e1 : IntKind.wrap .i64 R.f18 = R.f18 := wrap_i64 (by omega) (by omega)
 have e2 : IntKind.wrap .i64 R.f19 = R.f19 := wrap_i64 (by omega) (by omega)
 have e3 : IntKind.wrap .i64 R.f20 = R.f20 := wrap_i64 (by omega) (by omega)
 have e4 : IntKind.wrap .i64 R.f23 = R.f23 := wrap_i64 (by omega) (by omega)
 have e5 : IntKind.wrap .i64 R.f24 = R.f24 := wrap_i64 (by omega) (by omega)
 rw [e1,e2,e3,e4,e5]
 refine h4.alc fun b2 w5 h5 => ?_
 exact ⟨b2,rfl,h5.erase 1⟩
end
end Go.Proofs.YtilenpnpnbdndaaGreatDoor
