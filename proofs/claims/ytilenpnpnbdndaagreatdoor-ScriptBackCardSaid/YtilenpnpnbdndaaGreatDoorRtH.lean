/- Own text: part of the shallow reading of the code and of the contracts that are proved over it. -/
import Derived.Test.YtilenpnpnbdndaaGreatDoorShDf
import Derived.KernelRfl
import Derived.Test.YtilenpnpnbdndaaGreatDoorRtG
namespace Go.Proofs.YtilenpnpnbdndaaGreatDoor
open Go Go.Sh
set_option maxRecDepth 100000
set_option maxHeartbeats 4000000
attribute [local instance] Esc.none
noncomputable def F9_code : Code := Tryz.f9.body.getD .skip
theorem F9_code_ok : okC Tryz.prog Tryz.f9.ntmps F9_code = true := by kernel_rfl
def F9_1C (Kr : Value -> Value -> World -> Prop) : Post := fun o t w => match o with | .normal => False | .exit _ => (False) | .ret => Kr (t 2) (t 3) w
def F9_1 (Kr : Value -> Value -> World -> Prop) (x1 : Value) (w : World) : Prop :=
 rdA x1 fun a1 => ldR26 a1 w fun s2 => Calls Tryz.prog 31 #[s2.v] w (en fun e4 w3 => ∃ s5,exR26 fun s6 => e4 = .returned (.tuple #[(.string s5),s6.v]) /\ (alc (.cells ((R26.mk 0 0 0 0 0 0 0 0 0 false none 0 0 ⟨#[]⟩)).c 27) w3 fun b7 w8 => stcL (Addr.mk b7 0 none) 0 s6.l w8 fun w9 => br (ByteArray.toList s5 == ByteArray.toList ⟨#[]⟩) (Kr (.string ⟨#[]⟩) (.int .i64 1) w9) (ldR26 a1 w9 fun s10 => ldR26 (Addr.mk b7 0 none) w9 fun s11 => Calls Tryz.prog 12 #[s10.v,s11.v] w9 (en fun e13 w12 => ∃ b14,e13 = .returned (.bool b14) /\ (br (!b14) (Kr (.string ⟨#[]⟩) (.int .i64 1) w12) (Kr (.string s5) (.int .i64 0) w12))))))
def F9_1O (Q : Post) (t : Tm) (w : World) : Prop := F9_1 (fun y2 y3 w => ∀ g,rsh [(2,(.one .str)),(3,(.one (.int .i64)))] (upds g [(2,y2),(3,y3)]) fun t => Q .ret t w) (t 1) w
theorem F9_1_step (Kr : Value -> Value -> World -> Prop) (t : Tm) (w : World) : (F9_1 Kr (t 1) w) = rsh [(1,(.one .adr))] t (fun t => vc Tryz.prog (orcOf []) [1,1] (getAt F9_code [1,1]) (F9_1C Kr) t w) := by kernel_rfl
theorem F9_1_ok : ∀ Q t w,F9_1O Q t w -> W Tryz.prog Tryz.f9.ntmps (getAt F9_code [1,1]) Q t w := by
 intro Q t w h
 unfold F9_1O at h
 rw [F9_1_step] at h
 refine (vc_sound mixed (orcNil F9_code) _ _ rfl (okC_at F9_code_ok [1,1]) _ _ _ (rsh_out h)).mono ?_
 intro o t w q
 cases o with
 | normal => exact q.elim
 | exit i => exact q.elim
 | ret => exact out_ok [2,3] q
def F9 (x0 : Value) (w : World) (K : Value -> World -> Prop) : Prop :=
 exR26 fun s1 => x0 = s1.v /\ (alc (.cells s1.c 27) w fun b2 w3 => ldC ((Addr.mk b2 0 none).add 10) w3 fun _ l4n _ => br (decide (((l4n : Int) : Int) > 65536)) (K (.tuple #[(.string ⟨#[]⟩),(.int .i64 1)]) w3) (ldS ((Addr.mk b2 0 none).add 11) w3 fun s5 => br (decide (((ByteArray.size s5 : Int) : Int) > 65536)) (K (.tuple #[(.string ⟨#[]⟩),(.int .i64 1)]) w3) (ldI .i64 ((Addr.mk b2 0 none).add 1) w3 fun n6 => Calls Tryz.prog 30 #[(.int .i64 n6)] w3 (en fun e8 w7 => ∃ b9,e8 = .returned (.bool b9) /\ (br (!b9) (K (.tuple #[(.string ⟨#[]⟩),(.int .i64 1)]) w7) (ldI .i64 ((Addr.mk b2 0 none).add 2) w7 fun n10 => Calls Tryz.prog 30 #[(.int .i64 n10)] w7 (en fun e12 w11 => ∃ b13,e12 = .returned (.bool b13) /\ (br (!b13) (K (.tuple #[(.string ⟨#[]⟩),(.int .i64 1)]) w11) (ldI .i64 ((Addr.mk b2 0 none).add 3) w11 fun n14 => Calls Tryz.prog 30 #[(.int .i64 n14)] w11 (en fun e16 w15 => ∃ b17,e16 = .returned (.bool b17) /\ (br (!b17) (K (.tuple #[(.string ⟨#[]⟩),(.int .i64 1)]) w15) (ldI .i64 ((Addr.mk b2 0 none).add 4) w15 fun n18 => Calls Tryz.prog 30 #[(.int .i64 n18)] w15 (en fun e20 w19 => ∃ b21,e20 = .returned (.bool b21) /\ (br (!b21) (K (.tuple #[(.string ⟨#[]⟩),(.int .i64 1)]) w19) (ldI .i64 ((Addr.mk b2 0 none).add 6) w19 fun n22 => Calls Tryz.prog 30 #[(.int .i64 n22)] w19 (en fun e24 w23 => ∃ b25,e24 = .returned (.bool b25) /\ (br (!b25) (K (.tuple #[(.string ⟨#[]⟩),(.int .i64 1)]) w23) (F9_1 (fun y2_25 y3_25 w27 => ∀ _g28 : Tm,rdS y2_25 fun s29 => rdI .i64 y3_25 fun n30 => K (.tuple #[(.string s29),(.int .i64 n30)]) w27) (.pointer (some (Addr.mk b2 0 none))) w23))))))))))))))))))
theorem F9_step (x0 : Value) (w : World) (K : Value -> World -> Prop) : (F9 x0 w K) = rsh [(0,(.agg [(.int .i64),(.int .i64),(.int .i64),(.int .i64),(.int .i64),(.int .u8),(.int .i64),(.int .u16),(.int .u32),.bool,.slc,.str]))] (args0 #[x0]) (fun t => vc Tryz.prog (orcOf [([1,1],F9_1O)]) [] F9_code (retQ Tryz.prog Tryz.f9 K) t w) := by kernel_rfl
theorem F9_ok {x0 : Value} {w : World} {K : Value -> World -> Prop} (h : F9 x0 w K) : Calls Tryz.prog 9 #[x0] w (rt K) := by
 rw [F9_step] at h
 exact Calls.mono (calls_of (c := F9_code) mixed Tryz.func9 rfl (nlt rfl) (vc_sound mixed (orcCons (π := [1,1]) F9_1_ok (orcNil F9_code)) F9_code [] rfl F9_code_ok _ _ _ (rsh_out h))) fun _ _ => rv_none
noncomputable def F11_code : Code := Tryz.f11.body.getD .skip
theorem F11_code_ok : okC Tryz.prog Tryz.f11.ntmps F11_code = true := by kernel_rfl
def F11_1C (Kn : Value -> Value -> Value -> World -> Prop) : Post := fun o t w => match o with | .normal => Kn (t 0) (t 2) (t 5) w | .exit _ => (False) | .ret => False
def F11_1 (Kn : Value -> Value -> Value -> World -> Prop) (x0 : Value) (x2 : Value) (x5 : Value) (x6 : Value) (x117 : Value) (w : World) : Prop :=
 rdS x0 fun s1 => rdA x2 fun a2 => rdA x5 fun a3 => rdC x6 fun l4a l4n _ => rdB x117 fun b5 => br b5 (drw w fun w6 => ∃ w7 : World,Pres w7 w6 /\ (ixS 1 l4a l4n 1 fun a8 => ldI .i64 a8 w7 fun n9 => stc (a3.add 1) (.int .i64 0) w6 fun w10 => Pres w7 w10 /\ (stc (a3.add 2) (.int .i64 n9) w10 fun w11 => Kn (.string s1) (.pointer (some a2)) (.pointer (some a3)) w11))) (Kn (.string s1) (.pointer (some a2)) (.pointer (some a3)) w)
def F11_1O (Q : Post) (t : Tm) (w : World) : Prop := F11_1 (fun y0 y2 y5 w => ∀ g,rsh [(0,(.one .str)),(2,(.one .adr)),(5,(.one .adr))] (upds g [(0,y0),(2,y2),(5,y5)]) fun t => Q .normal t w) (t 0) (t 2) (t 5) (t 6) (t 117) w
theorem F11_1_step (Kn : Value -> Value -> Value -> World -> Prop) (t : Tm) (w : World) : (F11_1 Kn (t 0) (t 2) (t 5) (t 6) (t 117) w) = rsh [(0,(.one .str)),(2,(.one .adr)),(5,(.one .adr)),(6,(.one .slc)),(117,(.one .bool))] t (fun t => vc Tryz.prog (orcOf []) [1,1,1,1,1,1,1,1,1,1,1,0,1,0,1,1,1,1,1,1,1] (getAt F11_code [1,1,1,1,1,1,1,1,1,1,1,0,1,0,1,1,1,1,1,1,1]) (F11_1C Kn) t w) := by kernel_rfl
theorem F11_1_ok : ∀ Q t w,F11_1O Q t w -> W Tryz.prog Tryz.f11.ntmps (getAt F11_code [1,1,1,1,1,1,1,1,1,1,1,0,1,0,1,1,1,1,1,1,1]) Q t w := by
 intro Q t w h
 unfold F11_1O at h
 rw [F11_1_step] at h
 refine (vc_sound mixed (orcNil F11_code) _ _ rfl (okC_at F11_code_ok [1,1,1,1,1,1,1,1,1,1,1,0,1,0,1,1,1,1,1,1,1]) _ _ _ (rsh_out h)).mono ?_
 intro o t w q
 cases o with
 | normal => exact out_ok [0,2,5] q
 | exit i => exact q.elim
 | ret => exact q.elim
def F11_2C (Kn : Value -> Value -> Value -> World -> Prop) : Post := fun o t w => match o with | .normal => Kn (t 0) (t 2) (t 5) w | .exit _ => (False) | .ret => False
def F11_2 (Kn : Value -> Value -> Value -> World -> Prop) (x0 : Value) (x2 : Value) (x4 : Value) (x5 : Value) (x6 : Value) (x43 : Value) (x81 : Value) (w : World) : Prop :=
 rdS x0 fun s1 => rdA x2 fun a2 => rdC x4 fun l3a l3n _ => rdA x5 fun a4 => rdC x6 fun l5a l5n l5c => rdI .i64 x43 fun n6 => rdB x81 fun b7 => br b7 (drw w fun w8 => ∃ w9 : World,Pres w9 w8 /\ (ixS 1 l5a l5n 2 fun a10 => ldI .i64 a10 w8 fun n11 => ixS 1 l5a l5n 3 fun a12 => ldI .i64 a12 w9 fun n13 => stc (a4.add 2) (.int .i64 n11) w8 fun w14 => Pres w9 w14 /\ (stc (a4.add 3) (.int .i64 n13) w14 fun w15 => ldI .i64 (a4.add 0) w15 fun n16 => br (n16 == 11) (drw w15 fun w17 => ∃ w18 : World,Pres w18 w17 /\ (ixS 1 l5a l5n 4 fun a19 => ldI .i64 a19 w17 fun n20 => ixS 1 l5a l5n 5 fun a21 => ldI .i64 a21 w18 fun n22 => stc (a4.add 4) (.int .i64 n20) w17 fun w23 => Pres w18 w23 /\ (stc (a4.add 5) (.int .u8 (IntKind.wrap .u8 (n22))) w23 fun w24 => Kn (.string s1) (.pointer (some a2)) (.pointer (some a4)) w24))) (Kn (.string s1) (.pointer (some a2)) (.pointer (some a4)) w15)))) (br (n6 == 12) (drw w fun w25 => ∃ w26 : World,Pres w26 w25 /\ (ixS 1 l5a l5n 2 fun a27 => ldI .i64 a27 w26 fun n28 => ixS 1 l3a l3n 3 fun a29 => ldS a29 w25 fun s30 => Calls Tryz.prog 38 #[(.string s30)] w25 (en fun e32 w31 => ∃ l33a l33n l33c,e32 = .returned (.slice l33a l33n l33c) /\ (Pres w26 w31 /\ (stc (a4.add 2) (.int .i64 n28) w31 fun w34 => stc (a4.add 10) (.slice l33a l33n l33c) w34 fun w35 => Kn (.string s1) (.pointer (some a2)) (.pointer (some a4)) w35))))) (br (n6 == 13) (F11_1 (fun y0_35 y2_35 y5_35 w37 => ∀ _g38 : Tm,rdS y0_35 fun s39 => rdA y2_35 fun a40 => rdA y5_35 fun a41 => Kn (.string s39) (.pointer (some a40)) (.pointer (some a41)) w37) (.string s1) (.pointer (some a2)) (.pointer (some a4)) (.slice l5a l5n l5c) (.bool true) w) (F11_1 (fun y0_41 y2_41 y5_41 w43 => ∀ _g44 : Tm,rdS y0_41 fun s45 => rdA y2_41 fun a46 => rdA y5_41 fun a47 => Kn (.string s45) (.pointer (some a46)) (.pointer (some a47)) w43) (.string s1) (.pointer (some a2)) (.pointer (some a4)) (.slice l5a l5n l5c) (.bool (n6 == 14)) w)))
def F11_2O (Q : Post) (t : Tm) (w : World) : Prop := F11_2 (fun y0 y2 y5 w => ∀ g,rsh [(0,(.one .str)),(2,(.one .adr)),(5,(.one .adr))] (upds g [(0,y0),(2,y2),(5,y5)]) fun t => Q .normal t w) (t 0) (t 2) (t 4) (t 5) (t 6) (t 43) (t 81) w
theorem F11_2_step (Kn : Value -> Value -> Value -> World -> Prop) (t : Tm) (w : World) : (F11_2 Kn (t 0) (t 2) (t 4) (t 5) (t 6) (t 43) (t 81) w) = rsh [(0,(.one .str)),(2,(.one .adr)),(4,(.one .slc)),(5,(.one .adr)),(6,(.one .slc)),(43,(.one (.int .i64))),(81,(.one .bool))] t (fun t => vc Tryz.prog (orcOf [([1,1,1,1,1,1,1,1,1,1,1,0,1,0,1,1,1,1,1,1,1],F11_1O)]) [1,1,1,1,1,1,1,0,1,0,1,1,1,1,1,1,1] (getAt F11_code [1,1,1,1,1,1,1,0,1,0,1,1,1,1,1,1,1]) (F11_2C Kn) t w) := by kernel_rfl
theorem F11_2_ok : ∀ Q t w,F11_2O Q t w -> W Tryz.prog Tryz.f11.ntmps (getAt F11_code [1,1,1,1,1,1,1,0,1,0,1,1,1,1,1,1,1]) Q t w := by
 intro Q t w h
 unfold F11_2O at h
 rw [F11_2_step] at h
 refine (vc_sound mixed (orcCons (π := [1,1,1,1,1,1,1,1,1,1,1,0,1,0,1,1,1,1,1,1,1]) F11_1_ok (orcNil F11_code)) _ _ rfl (okC_at F11_code_ok [1,1,1,1,1,1,1,0,1,0,1,1,1,1,1,1,1]) _ _ _ (rsh_out h)).mono ?_
 intro o t w q
 cases o with
 | normal => exact out_ok [0,2,5] q
 | exit i => exact q.elim
 | ret => exact q.elim
def F11_3C (K2 : Value -> Value -> Value -> Value -> Value -> World -> Prop) : Post := fun o t w => match o with | .normal => False | .exit i => (match Nat.beq i 2 with | true => K2 (t 0) (t 2) (t 4) (t 5) (t 6) w | false => False) | .ret => False
def F11_3B (R : Value -> Value -> Value -> Value -> Value -> Value -> World -> Prop) (K2 : Value -> Value -> Value -> Value -> Value -> World -> Prop) (x0 : Value) (x2 : Value) (x4 : Value) (x5 : Value) (x6 : Value) (x7 : Value) (w : World) : Prop :=
 rdS x0 fun s1 => rdA x2 fun a2 => rdC x4 fun l3a l3n l3c => rdA x5 fun a4 => rdC x6 fun l5a l5n l5c => rdI .i64 x7 fun n6 => br (decide ((n6 : Int) < 6)) (ixS 1 l3a l3n n6 fun a7 => ldS a7 w fun s8 => Calls Tryz.prog 37 #[(.string s8)] w (en fun e10 w9 => ∃ n11,e10 = .returned (.int .u64 n11) /\ (ixS 1 l5a l5n n6 fun a12 => stc a12 (.int .i64 (IntKind.wrap .i64 ((Int.tmod n11 4398046511104)))) w9 fun w13 => R (.string s1) (.pointer (some a2)) (.slice l3a l3n l3c) (.pointer (some a4)) (.slice l5a l5n l5c) (.int .i64 (IntKind.wrap .i64 (n6 + 1))) w13))) (K2 (.string s1) (.pointer (some a2)) (.slice l3a l3n l3c) (.pointer (some a4)) (.slice l5a l5n l5c) w)
def F11_3 (K2 : Value -> Value -> Value -> Value -> Value -> World -> Prop) : Nat -> Value -> Value -> Value -> Value -> Value -> Value -> World -> Prop
 | 0 => fun _ _ _ _ _ _ _ => False
 | n + 1 => F11_3B (F11_3 K2 n) K2
def F11_3O (Q : Post) (t : Tm) (w : World) : Prop := ∃ n,F11_3 (fun y0 y2 y4 y5 y6 w => ∀ g,rsh [(0,(.one .str)),(2,(.one .adr)),(4,(.one .slc)),(5,(.one .adr)),(6,(.one .slc))] (upds g [(0,y0),(2,y2),(4,y4),(5,y5),(6,y6)]) fun t => Q (.exit 2) t w) n (t 0) (t 2) (t 4) (t 5) (t 6) (t 7) w
theorem F11_3_step (K2 : Value -> Value -> Value -> Value -> Value -> World -> Prop) (n : Nat) (t : Tm) (w : World) : (F11_3 K2 (n + 1) (t 0) (t 2) (t 4) (t 5) (t 6) (t 7) w) = rsh [(0,(.one .str)),(2,(.one .adr)),(4,(.one .slc)),(5,(.one .adr)),(6,(.one .slc)),(7,(.one (.int .i64)))] t (fun t => vc Tryz.prog (orcOf []) [0,0,1,0,1,1,1,1,1] (getAt F11_code [0,0,1,0,1,1,1,1,1]) (fun o t w => match o with | .normal => F11_3 K2 n (t 0) (t 2) (t 4) (t 5) (t 6) (t 7) w | .exit i => F11_3C K2 (.exit i) t w | .ret => F11_3C K2 .ret t w) t w) := by kernel_rfl
theorem F11_3_ok : ∀ Q t w,F11_3O Q t w -> W Tryz.prog Tryz.f11.ntmps (getAt F11_code [0,1,0,1,1,1,1,1]) Q t w := by
 intro Q t w ⟨n,h⟩
 refine (W_loop (P := Tryz.prog) (b := getAt F11_code [0,0,1,0,1,1,1,1,1]) (Q := F11_3C (fun y0 y2 y4 y5 y6 w => ∀ g,rsh [(0,(.one .str)),(2,(.one .adr)),(4,(.one .slc)),(5,(.one .adr)),(6,(.one .slc))] (upds g [(0,y0),(2,y2),(4,y4),(5,y5),(6,y6)]) fun t => Q (.exit 2) t w)) (G := fun n t w => F11_3 (fun y0 y2 y4 y5 y6 w => ∀ g,rsh [(0,(.one .str)),(2,(.one .adr)),(4,(.one .slc)),(5,(.one .adr)),(6,(.one .slc))] (upds g [(0,y0),(2,y2),(4,y4),(5,y5),(6,y6)]) fun t => Q (.exit 2) t w) n (t 0) (t 2) (t 4) (t 5) (t 6) (t 7) w) (fun _ _ h => h) (fun n t w h => ?_) n t w h).mono ?_
 ·rw [F11_3_step] at h
  exact vc_sound mixed (orcNil F11_code) _ _ rfl (okC_at F11_code_ok [0,0,1,0,1,1,1,1,1]) _ _ _ (rsh_out h)
 ·intro o t w q
  cases o with
  | normal => exact q.elim
  | exit i =>
   unfold F11_3C at q
   simp only at q
   split at q
   ·rename_i hi
    rw [nbeq] at hi
    subst hi
    exact out_ok [0,2,4,5,6] q
   ·exact q.elim
  | ret => exact q.elim
def F11_4C (Kr : Value -> Value -> World -> Prop) : Post := fun o t w => match o with | .normal => False | .exit _ => (False) | .ret => Kr (t 2) (t 3) w
def F11_4 (Kr : Value -> Value -> World -> Prop) (x0 : Value) (x2 : Value) (x5 : Value) (w : World) : Prop :=
 rdS x0 fun s1 => rdA x2 fun a2 => rdA x5 fun a3 => ldR26 a3 w fun s4 => Calls Tryz.prog 9 #[s4.v] w (en fun e6 w5 => ∃ s7,∃ n8,e6 = .returned (.tuple #[(.string s7),(.int .i64 n8)]) /\ (br (n8 != 0) (stcL a2 0 (R26.mk 0 0 0 0 0 0 0 0 0 false none 0 0 ⟨#[]⟩).l w5 fun w9 => Kr (.pointer (some a2)) (.int .i64 250) w9) (br (!(ByteArray.toList s7 == ByteArray.toList s1)) (stcL a2 0 (R26.mk 0 0 0 0 0 0 0 0 0 false none 0 0 ⟨#[]⟩).l w5 fun w10 => Kr (.pointer (some a2)) (.int .i64 250) w10) (ldR26 a3 w5 fun s11 => stcL a2 0 s11.l w5 fun w12 => Kr (.pointer (some a2)) (.int .i64 0) w12))))
def F11_4O (Q : Post) (t : Tm) (w : World) : Prop := F11_4 (fun y2 y3 w => ∀ g,rsh [(2,(.one .adr)),(3,(.one (.int .i64)))] (upds g [(2,y2),(3,y3)]) fun t => Q .ret t w) (t 0) (t 2) (t 5) w
theorem F11_4_step (Kr : Value -> Value -> World -> Prop) (t : Tm) (w : World) : (F11_4 Kr (t 0) (t 2) (t 5) w) = rsh [(0,(.one .str)),(2,(.one .adr)),(5,(.one .adr))] t (fun t => vc Tryz.prog (orcOf []) [1,1,1,1,1,1,1,1] (getAt F11_code [1,1,1,1,1,1,1,1]) (F11_4C Kr) t w) := by kernel_rfl
theorem F11_4_ok : ∀ Q t w,F11_4O Q t w -> W Tryz.prog Tryz.f11.ntmps (getAt F11_code [1,1,1,1,1,1,1,1]) Q t w := by
 intro Q t w h
 unfold F11_4O at h
 rw [F11_4_step] at h
 refine (vc_sound mixed (orcNil F11_code) _ _ rfl (okC_at F11_code_ok [1,1,1,1,1,1,1,1]) _ _ _ (rsh_out h)).mono ?_
 intro o t w q
 cases o with
 | normal => exact q.elim
 | exit i => exact q.elim
 | ret => exact out_ok [2,3] q
def F11_5C (K0 : Value -> Value -> Value -> World -> Prop) : Post := fun o t w => match o with | .normal => False | .exit i => (match Nat.beq i 0 with | true => K0 (t 0) (t 2) (t 4) w | false => False) | .ret => False
def F11_5B (R : Value -> Value -> Value -> World -> Prop) (K0 : Value -> Value -> Value -> World -> Prop) (x0 : Value) (x2 : Value) (x4 : Value) (w : World) : Prop :=
 rdS x0 fun s1 => rdA x2 fun a2 => rdC x4 fun l3a l3n l3c => br (decide (((l3n : Int) : Int) < 6)) (alc (.cells #[(.string ⟨#[]⟩)] 9) w fun b4 w5 => ∃ l6a l6n l6c w7,Sem.run Tryz.prog (Builtin.append_ #[77,77] 77 #[(.slice l3a l3n l3c),(.slice (some (Addr.mk b4 0 none)) 1 1)]) w5 = .ok (.slice l6a l6n l6c) w7 /\ (R (.string s1) (.pointer (some a2)) (.slice l6a l6n l6c) w7)) (K0 (.string s1) (.pointer (some a2)) (.slice l3a l3n l3c) w)
def F11_5 (K0 : Value -> Value -> Value -> World -> Prop) : Nat -> Value -> Value -> Value -> World -> Prop
 | 0 => fun _ _ _ _ => False
 | n + 1 => F11_5B (F11_5 K0 n) K0
def F11_5O (Q : Post) (t : Tm) (w : World) : Prop := ∃ n,F11_5 (fun y0 y2 y4 w => ∀ g,rsh [(0,(.one .str)),(2,(.one .adr)),(4,(.one .slc))] (upds g [(0,y0),(2,y2),(4,y4)]) fun t => Q (.exit 0) t w) n (t 0) (t 2) (t 4) w
theorem F11_5_step (K0 : Value -> Value -> Value -> World -> Prop) (n : Nat) (t : Tm) (w : World) : (F11_5 K0 (n + 1) (t 0) (t 2) (t 4) w) = rsh [(0,(.one .str)),(2,(.one .adr)),(4,(.one .slc))] t (fun t => vc Tryz.prog (orcOf []) [0,0,0,1,1] (getAt F11_code [0,0,0,1,1]) (fun o t w => match o with | .normal => F11_5 K0 n (t 0) (t 2) (t 4) w | .exit i => F11_5C K0 (.exit i) t w | .ret => F11_5C K0 .ret t w) t w) := by kernel_rfl
theorem F11_5_ok : ∀ Q t w,F11_5O Q t w -> W Tryz.prog Tryz.f11.ntmps (getAt F11_code [0,0,1,1]) Q t w := by
 intro Q t w ⟨n,h⟩
 refine (W_loop (P := Tryz.prog) (b := getAt F11_code [0,0,0,1,1]) (Q := F11_5C (fun y0 y2 y4 w => ∀ g,rsh [(0,(.one .str)),(2,(.one .adr)),(4,(.one .slc))] (upds g [(0,y0),(2,y2),(4,y4)]) fun t => Q (.exit 0) t w)) (G := fun n t w => F11_5 (fun y0 y2 y4 w => ∀ g,rsh [(0,(.one .str)),(2,(.one .adr)),(4,(.one .slc))] (upds g [(0,y0),(2,y2),(4,y4)]) fun t => Q (.exit 0) t w) n (t 0) (t 2) (t 4) w) (fun _ _ h => h) (fun n t w h => ?_) n t w h).mono ?_
 ·rw [F11_5_step] at h
  exact vc_sound mixed (orcNil F11_code) _ _ rfl (okC_at F11_code_ok [0,0,0,1,1]) _ _ _ (rsh_out h)
 ·intro o t w q
  cases o with
  | normal => exact q.elim
  | exit i =>
   unfold F11_5C at q
   simp only at q
   split at q
   ·rename_i hi
    rw [nbeq] at hi
    subst hi
    exact out_ok [0,2,4] q
   ·exact q.elim
  | ret => exact q.elim
def F11 (x0 : Value) (w : World) (K : Value -> World -> Prop) : Prop :=
 rdS x0 fun s1 => alc (.cells ((R26.mk 0 0 0 0 0 0 0 0 0 false none 0 0 ⟨#[]⟩)).c 27) w fun b2 w3 => Calls Tryz.prog 35 #[(.string s1)] w3 (en fun e5 w4 => ∃ l6a l6n l6c,e5 = .returned (.slice l6a l6n l6c) /\ (∃ k133 : Nat,F11_5 (fun y0_6 y2_6 y4_6 w8 => ∀ _g9 : Tm,rdS y0_6 fun s10 => rdA y2_6 fun a11 => rdC y4_6 fun l12a l12n l12c => ixS 1 l12a l12n 0 fun a13 => ldS a13 w8 fun s14 => Calls Tryz.prog 36 #[(.string s14)] w8 (en fun e16 w15 => ∃ n17,e16 = .returned (.int .i64 n17) /\ (alc (.cells ((R26.mk 0 0 0 0 0 0 0 0 0 false none 0 0 ⟨#[]⟩)).c 27) w15 fun b18 w19 => stcL (Addr.mk b18 0 none) 0 (R26.mk n17 0 0 0 0 0 0 0 0 false none 0 0 ⟨#[]⟩).l w19 fun w20 => ∃ l21a l21n l21c,∃ w22,Sem.run Tryz.prog (Instr.makeSlice 96 (.int .i64 6) (.int .i64 6)) w20 = .ok (.slice l21a l21n l21c) w22 /\ (∃ k132 : Nat,F11_3 (fun y0_22 y2_22 y4_22 y5_22 y6_22 w24 => ∀ _g25 : Tm,rdS y0_22 fun s26 => rdA y2_22 fun a27 => rdC y4_22 fun l28a l28n l28c => rdA y5_22 fun a29 => rdC y6_22 fun l30a l30n l30c => ixS 1 l30a l30n 1 fun a31 => ldI .i64 a31 w24 fun n32 => stc (a29.add 1) (.int .i64 n32) w24 fun w33 => ldI .i64 (a29.add 0) w33 fun n34 => br (n34 == 2) (drw w33 fun w35 => ∃ w36 : World,Pres w36 w35 /\ (ixS 1 l30a l30n 2 fun a37 => ldI .i64 a37 w36 fun n38 => ixS 1 l30a l30n 3 fun a39 => ldI .i64 a39 w36 fun n40 => ixS 1 l28a l28n 4 fun a41 => ldS a41 w36 fun s42 => ixS 1 l28a l28n 5 fun a43 => ldS a43 w35 fun s44 => Calls Tryz.prog 38 #[(.string s44)] w35 (en fun e46 w45 => ∃ l47a l47n l47c,e46 = .returned (.slice l47a l47n l47c) /\ (Pres w36 w45 /\ (stc (a29.add 7) (.int .u16 (IntKind.wrap .u16 (n38))) w45 fun w48 => Pres w36 w48 /\ (stc (a29.add 8) (.int .u32 (IntKind.wrap .u32 (n40))) w48 fun w49 => Pres w36 w49 /\ (stc (a29.add 9) (.bool (ByteArray.toList s42 == ByteArray.toList ⟨#[117]⟩)) w49 fun w50 => stc (a29.add 10) (.slice l47a l47n l47c) w50 fun w51 => F11_4 (fun y2_51 y3_51 w53 => ∀ _g54 : Tm,rdA y2_51 fun a55 => rdI .i64 y3_51 fun n56 => ldR26 a55 w53 fun s57 => K (.tuple #[s57.v,(.int .i64 n56)]) w53) (.string s26) (.pointer (some a27)) (.pointer (some a29)) w51))))))) (br (n34 == 5) (ixS 1 l28a l28n 2 fun a58 => ldS a58 w33 fun s59 => Calls Tryz.prog 38 #[(.string s59)] w33 (en fun e61 w60 => ∃ l62a l62n l62c,e61 = .returned (.slice l62a l62n l62c) /\ (∃ s63,∃ w64,Sem.run Tryz.prog (convert 25 9 (.slice l62a l62n l62c)) w60 = .ok (.string s63) w64 /\ (stc (a29.add 11) (.string s63) w64 fun w65 => F11_4 (fun y2_65 y3_65 w67 => ∀ _g68 : Tm,rdA y2_65 fun a69 => rdI .i64 y3_65 fun n70 => ldR26 a69 w67 fun s71 => K (.tuple #[s71.v,(.int .i64 n70)]) w67) (.string s26) (.pointer (some a27)) (.pointer (some a29)) w65)))) (br (n34 == 7) (drw w33 fun w72 => ∃ w73 : World,Pres w73 w72 /\ (ixS 1 l30a l30n 1 fun a74 => ldI .i64 a74 w73 fun n75 => stc (a29.add 1) (.int .i64 0) w72 fun w76 => Pres w73 w76 /\ (stc (a29.add 6) (.int .i64 n75) w76 fun w77 => F11_4 (fun y2_77 y3_77 w79 => ∀ _g80 : Tm,rdA y2_77 fun a81 => rdI .i64 y3_77 fun n82 => ldR26 a81 w79 fun s83 => K (.tuple #[s83.v,(.int .i64 n82)]) w79) (.string s26) (.pointer (some a27)) (.pointer (some a29)) w77))) (br (n34 == 8) (F11_2 (fun y0_83 y2_83 y5_83 w85 => ∀ _g86 : Tm,rdS y0_83 fun s87 => rdA y2_83 fun a88 => rdA y5_83 fun a89 => F11_4 (fun y2_89 y3_89 w91 => ∀ _g92 : Tm,rdA y2_89 fun a93 => rdI .i64 y3_89 fun n94 => ldR26 a93 w91 fun s95 => K (.tuple #[s95.v,(.int .i64 n94)]) w91) (.string s87) (.pointer (some a88)) (.pointer (some a89)) w85) (.string s26) (.pointer (some a27)) (.slice l28a l28n l28c) (.pointer (some a29)) (.slice l30a l30n l30c) (.int .i64 n34) (.bool true) w33) (br (n34 == 9) (F11_2 (fun y0_95 y2_95 y5_95 w97 => ∀ _g98 : Tm,rdS y0_95 fun s99 => rdA y2_95 fun a100 => rdA y5_95 fun a101 => F11_4 (fun y2_101 y3_101 w103 => ∀ _g104 : Tm,rdA y2_101 fun a105 => rdI .i64 y3_101 fun n106 => ldR26 a105 w103 fun s107 => K (.tuple #[s107.v,(.int .i64 n106)]) w103) (.string s99) (.pointer (some a100)) (.pointer (some a101)) w97) (.string s26) (.pointer (some a27)) (.slice l28a l28n l28c) (.pointer (some a29)) (.slice l30a l30n l30c) (.int .i64 n34) (.bool true) w33) (br (n34 == 10) (F11_2 (fun y0_107 y2_107 y5_107 w109 => ∀ _g110 : Tm,rdS y0_107 fun s111 => rdA y2_107 fun a112 => rdA y5_107 fun a113 => F11_4 (fun y2_113 y3_113 w115 => ∀ _g116 : Tm,rdA y2_113 fun a117 => rdI .i64 y3_113 fun n118 => ldR26 a117 w115 fun s119 => K (.tuple #[s119.v,(.int .i64 n118)]) w115) (.string s111) (.pointer (some a112)) (.pointer (some a113)) w109) (.string s26) (.pointer (some a27)) (.slice l28a l28n l28c) (.pointer (some a29)) (.slice l30a l30n l30c) (.int .i64 n34) (.bool true) w33) (F11_2 (fun y0_119 y2_119 y5_119 w121 => ∀ _g122 : Tm,rdS y0_119 fun s123 => rdA y2_119 fun a124 => rdA y5_119 fun a125 => F11_4 (fun y2_125 y3_125 w127 => ∀ _g128 : Tm,rdA y2_125 fun a129 => rdI .i64 y3_125 fun n130 => ldR26 a129 w127 fun s131 => K (.tuple #[s131.v,(.int .i64 n130)]) w127) (.string s123) (.pointer (some a124)) (.pointer (some a125)) w121) (.string s26) (.pointer (some a27)) (.slice l28a l28n l28c) (.pointer (some a29)) (.slice l30a l30n l30c) (.int .i64 n34) (.bool (n34 == 11)) w33))))))) k132 (.string s10) (.pointer (some a11)) (.slice l12a l12n l12c) (.pointer (some (Addr.mk b18 0 none))) (.slice l21a l21n l21c) (.int .i64 0) w22)))) k133 (.string s1) (.pointer (some (Addr.mk b2 0 none))) (.slice l6a l6n l6c) w4))
theorem F11_step (x0 : Value) (w : World) (K : Value -> World -> Prop) : (F11 x0 w K) = rsh [(0,(.one .str))] (args0 #[x0]) (fun t => vc Tryz.prog (orcOf [([1,1,1,1,1,1,1,1,1,1,1,0,1,0,1,1,1,1,1,1,1],F11_1O),([1,1,1,1,1,1,1,0,1,0,1,1,1,1,1,1,1],F11_2O),([0,1,0,1,1,1,1,1],F11_3O),([1,1,1,1,1,1,1,1],F11_4O),([0,0,1,1],F11_5O)]) [] F11_code (retQ Tryz.prog Tryz.f11 K) t w) := by kernel_rfl
theorem F11_ok {x0 : Value} {w : World} {K : Value -> World -> Prop} (h : F11 x0 w K) : Calls Tryz.prog 11 #[x0] w (rt K) := by
 rw [F11_step] at h
 exact Calls.mono (calls_of (c := F11_code) mixed Tryz.func11 rfl (nlt rfl) (vc_sound mixed (orcCons (π := [1,1,1,1,1,1,1,1,1,1,1,0,1,0,1,1,1,1,1,1,1]) F11_1_ok (orcCons (π := [1,1,1,1,1,1,1,0,1,0,1,1,1,1,1,1,1]) F11_2_ok (orcCons (π := [0,1,0,1,1,1,1,1]) F11_3_ok (orcCons (π := [1,1,1,1,1,1,1,1]) F11_4_ok (orcCons (π := [0,0,1,1]) F11_5_ok (orcNil F11_code)))))) F11_code [] rfl F11_code_ok _ _ _ (rsh_out h))) fun _ _ => rv_none
end Go.Proofs.YtilenpnpnbdndaaGreatDoor
namespace Go.Proofs.YtilenpnpnbdndaaGreatDoor
open Go Go.Sh
set_option maxRecDepth 100000
attribute [local instance] Esc.none
def kOf (o : Nat) : Nat := ([(1,69),(2,70),(3,71),(4,79),(5,80),(6,77),(7,72),(8,73),(9,74),(10,75),(11,76),(1000000,75)].find? fun p => p.1 == o).elim 0 (·.2)
def feet : List Nat := [1,2,3,4,5,6,7,8,9,10,11,1000000]
theorem foot_part : ∀ k ∈ partIds,∀ o ∈ foot (partIt k),kOf o = k := by
 have : partIds.all (fun k => (foot (partIt k)).all fun o => kOf o == k) = true := by decide +kernel
 intro k hk o ho
 have := List.all_eq_true.1 (List.all_eq_true.1 this k hk) o ho
 simpa using this
theorem part_foot : ∀ o ∈ feet,o ∈ foot (partIt (kOf o)) := by
 have : feet.all (fun o => (foot (partIt (kOf o))).contains o) = true := by decide +kernel
 intro o ho
 have := List.all_eq_true.1 this o ho
 simpa using this
theorem hasFoot_iff {t : Vb} (ht : t ∈ vtab) (o : Nat) (ho : o ∈ feet) : hasFoot t o ↔ t.2.2.contains (kOf o) = true := by
 constructor
 ·rintro ⟨it,hi,hf⟩
  rcases List.mem_cons.1 hi with rfl | hi
  ·simp [foot] at hf
  ·obtain ⟨k,hk,rfl⟩ := List.mem_map.1 hi
   rw [foot_part k ((vtab_ok t ht).1 k hk) o hf]
   simpa using hk
 ·intro h
  exact ⟨partIt (kOf o),List.mem_cons_of_mem _ (List.mem_map.2 ⟨kOf o,by simpa using h,rfl⟩),part_foot o ho⟩
theorem fine_ok {R : R26} {dat : List UInt8} {t : Vb} (ht : t ∈ vtab) (h : Fine R dat) : okAll (itemsOf t) ⟨R.c,dat⟩ := by
 intro it hi
 rcases List.mem_cons.1 hi with rfl | hi
 ·trivial
 ·obtain ⟨k,hk,rfl⟩ := List.mem_map.1 hi
  have hk := (vtab_ok t ht).1 k hk
  simp only [partIds,List.mem_cons,List.not_mem_nil,or_false] at hk
  rcases hk with rfl | rfl | rfl | rfl | rfl | rfl | rfl | rfl | rfl | rfl | rfl
  ·exact h.n1
  ·exact h.n2
  ·exact h.n3
  ·exact h.good.2.1
  ·exact h.good.2.2
  ·trivial
  ·exact h.dat
  ·exact h.why
  ·exact h.n6
  ·exact h.n4
  ·exact h.good.1
theorem LineOk.fine {R : R26} {dat : List UInt8} {t : Vb} (h : LineOk t R dat) (hG : GoodD ⟨R.c,dat⟩) : Fine R dat := by
 have num : ∀ o ∈ [1,2,3,4,6],partIt (kOf o) = .num o .i64 1099511627776 -> o ∈ feet -> R26.zz.c[o]? = some (.int .i64 0) -> 0 <= iAt R.c o /\ iAt R.c o <= 1099511627776 := fun o ho hp hf hz => by
  rcases Classical.em (hasFoot t o) with hx | hx
  ·have hb := (hasFoot_iff h.mem o hf).1 hx
   have := h.ok (partIt (kOf o)) (List.mem_cons_of_mem _ (List.mem_map.2 ⟨kOf o,by simpa using hb,rfl⟩))
   rw [hp] at this
   exact this
  ·have hne : o ≠ 0 /\ o ≠ 10 := by simp at ho; omega
   have := h.away o hne.1 hne.2 hx
   rw [hz] at this
   rw [iAt_of this]
   omega
 refine ⟨num 1 (by simp) rfl (by decide) rfl,num 2 (by simp) rfl (by decide) rfl,num 3 (by simp) rfl (by decide) rfl,num 4 (by simp) rfl (by decide) rfl,num 6 (by simp) rfl (by decide) rfl,hG,?_,?_⟩
 ·rcases Classical.em (hasFoot t 1000000) with hx | hx
  ·have hb : t.2.2.contains 75 = true := (hasFoot_iff h.mem 1000000 (by decide)).1 hx
   exact h.ok (.dat 10) (List.mem_cons_of_mem _ (List.mem_map.2 ⟨75,by simpa using hb,rfl⟩))
  ·rw [h.data hx]; simp
 ·rcases Classical.em (hasFoot t 11) with hx | hx
  ·have hb : t.2.2.contains 76 = true := (hasFoot_iff h.mem 11 (by decide)).1 hx
   exact h.ok (.why 11) (List.mem_cons_of_mem _ (List.mem_map.2 ⟨76,by simpa using hb,rfl⟩))
  ·have := h.away 11 (by decide) (by decide) hx
   have : some (Value.string R.f11) = some (Value.string ⟨#[]⟩) := this
   injection this with this
   injection this with this
   rw [this]
   decide
theorem mask_line {R : R26} {dat : List UInt8} {t : Vb} (ht : t ∈ vtab) (hk : R.f0 = t.1) (ho : okAll (itemsOf t) ⟨R.c,dat⟩) : Deq R dat (maskR t R) (maskD t dat) ↔ LineOk t R dat := by
 constructor
 ·intro h
  refine ⟨ht,ho,hk,fun o h0 h10 hf => ?_,fun hf => ?_⟩
  ·revert h0 h10 hf
   exact fun h0 h10 hf => match o,h0,h10,hf with
  | 0,h0,_,_ => absurd rfl h0
  | 1,_,_,hf => by
   have hb : t.2.2.contains 69 = false := by cases hb : t.2.2.contains 69 with | true => exact absurd ((hasFoot_iff ht 1 (by decide)).2 hb) hf | false => rfl
   have hc := h.cells 1 (by decide)
   have hm : (maskR t R).c[1]? = some (Value.int .i64 (bif t.2.2.contains 69 then R.f1 else 0)) := rfl
   rw [hm,hb] at hc
   exact hc
  | 2,_,_,hf => by
   have hb : t.2.2.contains 70 = false := by cases hb : t.2.2.contains 70 with | true => exact absurd ((hasFoot_iff ht 2 (by decide)).2 hb) hf | false => rfl
   have hc := h.cells 2 (by decide)
   have hm : (maskR t R).c[2]? = some (Value.int .i64 (bif t.2.2.contains 70 then R.f2 else 0)) := rfl
   rw [hm,hb] at hc
   exact hc
  | 3,_,_,hf => by
   have hb : t.2.2.contains 71 = false := by cases hb : t.2.2.contains 71 with | true => exact absurd ((hasFoot_iff ht 3 (by decide)).2 hb) hf | false => rfl
   have hc := h.cells 3 (by decide)
   have hm : (maskR t R).c[3]? = some (Value.int .i64 (bif t.2.2.contains 71 then R.f3 else 0)) := rfl
   rw [hm,hb] at hc
   exact hc
  | 4,_,_,hf => by
   have hb : t.2.2.contains 79 = false := by cases hb : t.2.2.contains 79 with | true => exact absurd ((hasFoot_iff ht 4 (by decide)).2 hb) hf | false => rfl
   have hc := h.cells 4 (by decide)
   have hm : (maskR t R).c[4]? = some (Value.int .i64 (bif t.2.2.contains 79 then R.f4 else 0)) := rfl
   rw [hm,hb] at hc
   exact hc
  | 5,_,_,hf => by
   have hb : t.2.2.contains 80 = false := by cases hb : t.2.2.contains 80 with | true => exact absurd ((hasFoot_iff ht 5 (by decide)).2 hb) hf | false => rfl
   have hc := h.cells 5 (by decide)
   have hm : (maskR t R).c[5]? = some (Value.int .u8 (bif t.2.2.contains 80 then R.f5 else 0)) := rfl
   rw [hm,hb] at hc
   exact hc
  | 6,_,_,hf => by
   have hb : t.2.2.contains 77 = false := by cases hb : t.2.2.contains 77 with | true => exact absurd ((hasFoot_iff ht 6 (by decide)).2 hb) hf | false => rfl
   have hc := h.cells 6 (by decide)
   have hm : (maskR t R).c[6]? = some (Value.int .i64 (bif t.2.2.contains 77 then R.f6 else 0)) := rfl
   rw [hm,hb] at hc
   exact hc
  | 7,_,_,hf => by
   have hb : t.2.2.contains 72 = false := by cases hb : t.2.2.contains 72 with | true => exact absurd ((hasFoot_iff ht 7 (by decide)).2 hb) hf | false => rfl
   have hc := h.cells 7 (by decide)
   have hm : (maskR t R).c[7]? = some (Value.int .u16 (bif t.2.2.contains 72 then R.f7 else 0)) := rfl
   rw [hm,hb] at hc
   exact hc
  | 8,_,_,hf => by
   have hb : t.2.2.contains 73 = false := by cases hb : t.2.2.contains 73 with | true => exact absurd ((hasFoot_iff ht 8 (by decide)).2 hb) hf | false => rfl
   have hc := h.cells 8 (by decide)
   have hm : (maskR t R).c[8]? = some (Value.int .u32 (bif t.2.2.contains 73 then R.f8 else 0)) := rfl
   rw [hm,hb] at hc
   exact hc
  | 9,_,_,hf => by
   have hb : t.2.2.contains 74 = false := by cases hb : t.2.2.contains 74 with | true => exact absurd ((hasFoot_iff ht 9 (by decide)).2 hb) hf | false => rfl
   have hc := h.cells 9 (by decide)
   have hm : (maskR t R).c[9]? = some (Value.bool (bif t.2.2.contains 74 then R.f9 else false)) := rfl
   rw [hm,hb] at hc
   exact hc
  | 11,_,_,hf => by
   have hb : t.2.2.contains 76 = false := by cases hb : t.2.2.contains 76 with | true => exact absurd ((hasFoot_iff ht 11 (by decide)).2 hb) hf | false => rfl
   have hc := h.cells 11 (by decide)
   have hm : (maskR t R).c[11]? = some (Value.string (bif t.2.2.contains 76 then R.f11 else ⟨#[]⟩)) := rfl
   rw [hm,hb] at hc
   exact hc
  | 10,_,h10,_ => absurd rfl h10
  | o + 12,_,_,_ => by rw [Array.getElem?_eq_none (by show 12 <= o + 12; omega),Array.getElem?_eq_none (by show 12 <= o + 12; omega)]
  ·have hb : t.2.2.contains 75 = false := by cases hb : t.2.2.contains 75 with | true => exact absurd ((hasFoot_iff ht 1000000 (by decide)).2 hb) hf | false => rfl
   have hd := h.dat
   unfold maskD at hd
   rw [hb] at hd
   exact hd
 ·rintro ⟨_,_,_,ha,hd⟩
  refine ⟨fun o h10 => ?_,?_⟩
  ·exact match o,h10 with
  | 0,_ => rfl
  | 1,_ => by
   show some (Value.int .i64 R.f1) = some (Value.int .i64 (bif t.2.2.contains 69 then R.f1 else 0))
   cases hb : t.2.2.contains 69 with
   | true => rfl
   | false => exact ha 1 (by decide) (by decide) fun hf => by have hx : t.2.2.contains 69 = true := (hasFoot_iff ht 1 (by decide)).1 hf; rw [hx] at hb; cases hb
  | 2,_ => by
   show some (Value.int .i64 R.f2) = some (Value.int .i64 (bif t.2.2.contains 70 then R.f2 else 0))
   cases hb : t.2.2.contains 70 with
   | true => rfl
   | false => exact ha 2 (by decide) (by decide) fun hf => by have hx : t.2.2.contains 70 = true := (hasFoot_iff ht 2 (by decide)).1 hf; rw [hx] at hb; cases hb
  | 3,_ => by
   show some (Value.int .i64 R.f3) = some (Value.int .i64 (bif t.2.2.contains 71 then R.f3 else 0))
   cases hb : t.2.2.contains 71 with
   | true => rfl
   | false => exact ha 3 (by decide) (by decide) fun hf => by have hx : t.2.2.contains 71 = true := (hasFoot_iff ht 3 (by decide)).1 hf; rw [hx] at hb; cases hb
  | 4,_ => by
   show some (Value.int .i64 R.f4) = some (Value.int .i64 (bif t.2.2.contains 79 then R.f4 else 0))
   cases hb : t.2.2.contains 79 with
   | true => rfl
   | false => exact ha 4 (by decide) (by decide) fun hf => by have hx : t.2.2.contains 79 = true := (hasFoot_iff ht 4 (by decide)).1 hf; rw [hx] at hb; cases hb
  | 5,_ => by
   show some (Value.int .u8 R.f5) = some (Value.int .u8 (bif t.2.2.contains 80 then R.f5 else 0))
   cases hb : t.2.2.contains 80 with
   | true => rfl
   | false => exact ha 5 (by decide) (by decide) fun hf => by have hx : t.2.2.contains 80 = true := (hasFoot_iff ht 5 (by decide)).1 hf; rw [hx] at hb; cases hb
  | 6,_ => by
   show some (Value.int .i64 R.f6) = some (Value.int .i64 (bif t.2.2.contains 77 then R.f6 else 0))
   cases hb : t.2.2.contains 77 with
   | true => rfl
   | false => exact ha 6 (by decide) (by decide) fun hf => by have hx : t.2.2.contains 77 = true := (hasFoot_iff ht 6 (by decide)).1 hf; rw [hx] at hb; cases hb
  | 7,_ => by
   show some (Value.int .u16 R.f7) = some (Value.int .u16 (bif t.2.2.contains 72 then R.f7 else 0))
   cases hb : t.2.2.contains 72 with
   | true => rfl
   | false => exact ha 7 (by decide) (by decide) fun hf => by have hx : t.2.2.contains 72 = true := (hasFoot_iff ht 7 (by decide)).1 hf; rw [hx] at hb; cases hb
  | 8,_ => by
   show some (Value.int .u32 R.f8) = some (Value.int .u32 (bif t.2.2.contains 73 then R.f8 else 0))
   cases hb : t.2.2.contains 73 with
   | true => rfl
   | false => exact ha 8 (by decide) (by decide) fun hf => by have hx : t.2.2.contains 73 = true := (hasFoot_iff ht 8 (by decide)).1 hf; rw [hx] at hb; cases hb
  | 9,_ => by
   show some (Value.bool R.f9) = some (Value.bool (bif t.2.2.contains 74 then R.f9 else false))
   cases hb : t.2.2.contains 74 with
   | true => rfl
   | false => exact ha 9 (by decide) (by decide) fun hf => by have hx : t.2.2.contains 74 = true := (hasFoot_iff ht 9 (by decide)).1 hf; rw [hx] at hb; cases hb
  | 11,_ => by
   show some (Value.string R.f11) = some (Value.string (bif t.2.2.contains 76 then R.f11 else ⟨#[]⟩))
   cases hb : t.2.2.contains 76 with
   | true => rfl
   | false => exact ha 11 (by decide) (by decide) fun hf => by have hx : t.2.2.contains 76 = true := (hasFoot_iff ht 11 (by decide)).1 hf; rw [hx] at hb; cases hb
  | 10,h10 => absurd rfl h10
  | o + 12,_ => by rw [Array.getElem?_eq_none (by show 12 <= o + 12; omega),Array.getElem?_eq_none (by show 12 <= o + 12; omega)]
  ·unfold maskD
   cases hb : t.2.2.contains 75 with
   | true => rfl
   | false => exact hd fun hf => by have hx : t.2.2.contains 75 = true := (hasFoot_iff ht 1000000 (by decide)).1 hf; rw [hx] at hb; cases hb
end Go.Proofs.YtilenpnpnbdndaaGreatDoor
