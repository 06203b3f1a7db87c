/- Own text: part of the shallow reading of the code and of the contracts that are proved over it. -/
import Derived.Test.YtilenpnpnbdndaaGreatDoorSrR
import Derived.KernelRfl
namespace Go.Proofs.YtilenpnpnbdndaaGreatDoor
open Go Go.Sh
set_option maxRecDepth 100000
set_option maxHeartbeats 4000000
attribute [local instance] Esc.none
noncomputable def F9_code : Code := Tryz.f9.body.getD .skip
theorem F9_code_ok : okC Tryz.prog Tryz.f9.ntmps F9_code = true := by kernel_rfl
def F9_1C (Kr : Value -> Value -> World -> Prop) : Post := fun o t w => match o with | .normal => False | .exit _ => (False) | .ret => Kr (t 2) (t 3) w
def F9_1 (Kr : Value -> Value -> World -> Prop) (x1 : Value) (w : World) : Prop :=
  rdA x1 fun a1 => ldR26 a1 w fun s2 => Calls Tryz.prog 31 #[s2.v] w (en fun e4 w3 => ∃ s5,exR26 fun s6 => e4 = .returned (.tuple #[(.string s5),s6.v]) /\ (alc (.cells ((R26.mk 0 0 0 0 0 0 0 0 0 false none 0 0 ⟨#[]⟩)).c 27) w3 fun b7 w8 => stcL (Addr.mk b7 0 none) 0 s6.l w8 fun w9 => br (ByteArray.toList s5 == ByteArray.toList ⟨#[]⟩) (Kr (.string ⟨#[]⟩) (.int .i64 1) w9) (ldR26 a1 w9 fun s10 => ldR26 (Addr.mk b7 0 none) w9 fun s11 => Calls Tryz.prog 12 #[s10.v,s11.v] w9 (en fun e13 w12 => ∃ b14,e13 = .returned (.bool b14) /\ (br (!b14) (Kr (.string ⟨#[]⟩) (.int .i64 1) w12) (Kr (.string s5) (.int .i64 0) w12))))))
def F9_1O (Q : Post) (t : Tm) (w : World) : Prop := F9_1 (fun y2 y3 w => ∀ g,rsh [(2,(.one .str)),(3,(.one (.int .i64)))] (upds g [(2,y2),(3,y3)]) fun t => Q .ret t w) (t 1) w
theorem F9_1_step (Kr : Value -> Value -> World -> Prop) (t : Tm) (w : World) : (F9_1 Kr (t 1) w) = rsh [(1,(.one .adr))] t (fun t => vc Tryz.prog (orcOf []) [1,1] (getAt F9_code [1,1]) (F9_1C Kr) t w) := by kernel_rfl
theorem F9_1_ok : ∀ Q t w,F9_1O Q t w -> W Tryz.prog Tryz.f9.ntmps (getAt F9_code [1,1]) Q t w := by
  intro Q t w h
  unfold F9_1O at h
  rw [F9_1_step] at h
  refine (vc_sound mixed (orcNil F9_code) _ _ rfl (okC_at F9_code_ok [1,1]) _ _ _ (rsh_out h)).mono ?_
  intro o t w q
  cases o with
  | normal => exact q.elim
  | exit i => exact q.elim
  | ret => exact out_ok [2,3] q
def F9 (x0 : Value) (w : World) (K : Value -> World -> Prop) : Prop :=
  exR26 fun s1 => x0 = s1.v /\ (alc (.cells s1.c 27) w fun b2 w3 => ldC ((Addr.mk b2 0 none).add 10) w3 fun _ l4n _ => br (decide (((l4n : Int) : Int) > 65536)) (K (.tuple #[(.string ⟨#[]⟩),(.int .i64 1)]) w3) (ldS ((Addr.mk b2 0 none).add 11) w3 fun s5 => br (decide (((ByteArray.size s5 : Int) : Int) > 65536)) (K (.tuple #[(.string ⟨#[]⟩),(.int .i64 1)]) w3) (ldI .i64 ((Addr.mk b2 0 none).add 1) w3 fun n6 => Calls Tryz.prog 30 #[(.int .i64 n6)] w3 (en fun e8 w7 => ∃ b9,e8 = .returned (.bool b9) /\ (br (!b9) (K (.tuple #[(.string ⟨#[]⟩),(.int .i64 1)]) w7) (ldI .i64 ((Addr.mk b2 0 none).add 2) w7 fun n10 => Calls Tryz.prog 30 #[(.int .i64 n10)] w7 (en fun e12 w11 => ∃ b13,e12 = .returned (.bool b13) /\ (br (!b13) (K (.tuple #[(.string ⟨#[]⟩),(.int .i64 1)]) w11) (ldI .i64 ((Addr.mk b2 0 none).add 3) w11 fun n14 => Calls Tryz.prog 30 #[(.int .i64 n14)] w11 (en fun e16 w15 => ∃ b17,e16 = .returned (.bool b17) /\ (br (!b17) (K (.tuple #[(.string ⟨#[]⟩),(.int .i64 1)]) w15) (ldI .i64 ((Addr.mk b2 0 none).add 4) w15 fun n18 => Calls Tryz.prog 30 #[(.int .i64 n18)] w15 (en fun e20 w19 => ∃ b21,e20 = .returned (.bool b21) /\ (br (!b21) (K (.tuple #[(.string ⟨#[]⟩),(.int .i64 1)]) w19) (ldI .i64 ((Addr.mk b2 0 none).add 6) w19 fun n22 => Calls Tryz.prog 30 #[(.int .i64 n22)] w19 (en fun e24 w23 => ∃ b25,e24 = .returned (.bool b25) /\ (br (!b25) (K (.tuple #[(.string ⟨#[]⟩),(.int .i64 1)]) w23) (F9_1 (fun y2_25 y3_25 w27 => ∀ _g28 : Tm,rdS y2_25 fun s29 => rdI .i64 y3_25 fun n30 => K (.tuple #[(.string s29),(.int .i64 n30)]) w27) (.pointer (some (Addr.mk b2 0 none))) w23))))))))))))))))))
theorem F9_step (x0 : Value) (w : World) (K : Value -> World -> Prop) : (F9 x0 w K) = rsh [(0,(.agg [(.int .i64),(.int .i64),(.int .i64),(.int .i64),(.int .i64),(.int .u8),(.int .i64),(.int .u16),(.int .u32),.bool,.slc,.str]))] (args0 #[x0]) (fun t => vc Tryz.prog (orcOf [([1,1],F9_1O)]) [] F9_code (retQ Tryz.prog Tryz.f9 K) t w) := by kernel_rfl
theorem F9_ok {x0 : Value} {w : World} {K : Value -> World -> Prop} (h : F9 x0 w K) : Calls Tryz.prog 9 #[x0] w (rt K) := by
  rw [F9_step] at h
  exact Calls.mono (calls_of (c := F9_code) mixed Tryz.func9 rfl (nlt rfl) (vc_sound mixed (orcCons (π := [1,1]) F9_1_ok (orcNil F9_code)) F9_code [] rfl F9_code_ok _ _ _ (rsh_out h))) fun _ _ => rv_none
noncomputable def F11_code : Code := Tryz.f11.body.getD .skip
theorem F11_code_ok : okC Tryz.prog Tryz.f11.ntmps F11_code = true := by kernel_rfl
def F11_1C (Kn : Value -> Value -> Value -> World -> Prop) : Post := fun o t w => match o with | .normal => Kn (t 0) (t 2) (t 5) w | .exit _ => (False) | .ret => False
def F11_1 (Kn : Value -> Value -> Value -> World -> Prop) (x0 : Value) (x2 : Value) (x5 : Value) (x6 : Value) (x117 : Value) (w : World) : Prop :=
  rdS x0 fun s1 => rdA x2 fun a2 => rdA x5 fun a3 => rdC x6 fun l4a l4n _ => rdB x117 fun b5 => br b5 (drw w fun w6 => ∃ w7 : World,Pres w7 w6 /\ (ixS 1 l4a l4n 1 fun a8 => ldI .i64 a8 w7 fun n9 => stc (a3.add 1) (.int .i64 0) w6 fun w10 => Pres w7 w10 /\ (stc (a3.add 2) (.int .i64 n9) w10 fun w11 => Kn (.string s1) (.pointer (some a2)) (.pointer (some a3)) w11))) (Kn (.string s1) (.pointer (some a2)) (.pointer (some a3)) w)
def F11_1O (Q : Post) (t : Tm) (w : World) : Prop := F11_1 (fun y0 y2 y5 w => ∀ g,rsh [(0,(.one .str)),(2,(.one .adr)),(5,(.one .adr))] (upds g [(0,y0),(2,y2),(5,y5)]) fun t => Q .normal t w) (t 0) (t 2) (t 5) (t 6) (t 117) w
theorem F11_1_step (Kn : Value -> Value -> Value -> World -> Prop) (t : Tm) (w : World) : (F11_1 Kn (t 0) (t 2) (t 5) (t 6) (t 117) w) = rsh [(0,(.one .str)),(2,(.one .adr)),(5,(.one .adr)),(6,(.one .slc)),(117,(.one .bool))] t (fun t => vc Tryz.prog (orcOf []) [1,1,1,1,1,1,1,1,1,1,1,0,1,0,1,1,1,1,1,1,1] (getAt F11_code [1,1,1,1,1,1,1,1,1,1,1,0,1,0,1,1,1,1,1,1,1]) (F11_1C Kn) t w) := by kernel_rfl
theorem F11_1_ok : ∀ Q t w,F11_1O Q t w -> W Tryz.prog Tryz.f11.ntmps (getAt F11_code [1,1,1,1,1,1,1,1,1,1,1,0,1,0,1,1,1,1,1,1,1]) Q t w := by
  intro Q t w h
  unfold F11_1O at h
  rw [F11_1_step] at h
  refine (vc_sound mixed (orcNil F11_code) _ _ rfl (okC_at F11_code_ok [1,1,1,1,1,1,1,1,1,1,1,0,1,0,1,1,1,1,1,1,1]) _ _ _ (rsh_out h)).mono ?_
  intro o t w q
  cases o with
  | normal => exact out_ok [0,2,5] q
  | exit i => exact q.elim
  | ret => exact q.elim
def F11_2C (Kn : Value -> Value -> Value -> World -> Prop) : Post := fun o t w => match o with | .normal => Kn (t 0) (t 2) (t 5) w | .exit _ => (False) | .ret => False
def F11_2 (Kn : Value -> Value -> Value -> World -> Prop) (x0 : Value) (x2 : Value) (x4 : Value) (x5 : Value) (x6 : Value) (x43 : Value) (x81 : Value) (w : World) : Prop :=
  rdS x0 fun s1 => rdA x2 fun a2 => rdC x4 fun l3a l3n _ => rdA x5 fun a4 => rdC x6 fun l5a l5n l5c => rdI .i64 x43 fun n6 => rdB x81 fun b7 => br b7 (drw w fun w8 => ∃ w9 : World,Pres w9 w8 /\ (ixS 1 l5a l5n 2 fun a10 => ldI .i64 a10 w8 fun n11 => ixS 1 l5a l5n 3 fun a12 => ldI .i64 a12 w9 fun n13 => stc (a4.add 2) (.int .i64 n11) w8 fun w14 => Pres w9 w14 /\ (stc (a4.add 3) (.int .i64 n13) w14 fun w15 => ldI .i64 (a4.add 0) w15 fun n16 => br (n16 == 11) (drw w15 fun w17 => ∃ w18 : World,Pres w18 w17 /\ (ixS 1 l5a l5n 4 fun a19 => ldI .i64 a19 w17 fun n20 => ixS 1 l5a l5n 5 fun a21 => ldI .i64 a21 w18 fun n22 => stc (a4.add 4) (.int .i64 n20) w17 fun w23 => Pres w18 w23 /\ (stc (a4.add 5) (.int .u8 (IntKind.wrap .u8 (n22))) w23 fun w24 => Kn (.string s1) (.pointer (some a2)) (.pointer (some a4)) w24))) (Kn (.string s1) (.pointer (some a2)) (.pointer (some a4)) w15)))) (br (n6 == 12) (drw w fun w25 => ∃ w26 : World,Pres w26 w25 /\ (ixS 1 l5a l5n 2 fun a27 => ldI .i64 a27 w26 fun n28 => ixS 1 l3a l3n 3 fun a29 => ldS a29 w25 fun s30 => Calls Tryz.prog 38 #[(.string s30)] w25 (en fun e32 w31 => ∃ l33a l33n l33c,e32 = .returned (.slice l33a l33n l33c) /\ (Pres w26 w31 /\ (stc (a4.add 2) (.int .i64 n28) w31 fun w34 => stc (a4.add 10) (.slice l33a l33n l33c) w34 fun w35 => Kn (.string s1) (.pointer (some a2)) (.pointer (some a4)) w35))))) (br (n6 == 13) (F11_1 (fun y0_35 y2_35 y5_35 w37 => ∀ _g38 : Tm,rdS y0_35 fun s39 => rdA y2_35 fun a40 => rdA y5_35 fun a41 => Kn (.string s39) (.pointer (some a40)) (.pointer (some a41)) w37) (.string s1) (.pointer (some a2)) (.pointer (some a4)) (.slice l5a l5n l5c) (.bool true) w) (F11_1 (fun y0_41 y2_41 y5_41 w43 => ∀ _g44 : Tm,rdS y0_41 fun s45 => rdA y2_41 fun a46 => rdA y5_41 fun a47 => Kn (.string s45) (.pointer (some a46)) (.pointer (some a47)) w43) (.string s1) (.pointer (some a2)) (.pointer (some a4)) (.slice l5a l5n l5c) (.bool (n6 == 14)) w)))
def F11_2O (Q : Post) (t : Tm) (w : World) : Prop := F11_2 (fun y0 y2 y5 w => ∀ g,rsh [(0,(.one .str)),(2,(.one .adr)),(5,(.one .adr))] (upds g [(0,y0),(2,y2),(5,y5)]) fun t => Q .normal t w) (t 0) (t 2) (t 4) (t 5) (t 6) (t 43) (t 81) w
theorem F11_2_step (Kn : Value -> Value -> Value -> World -> Prop) (t : Tm) (w : World) : (F11_2 Kn (t 0) (t 2) (t 4) (t 5) (t 6) (t 43) (t 81) w) = rsh [(0,(.one .str)),(2,(.one .adr)),(4,(.one .slc)),(5,(.one .adr)),(6,(.one .slc)),(43,(.one (.int .i64))),(81,(.one .bool))] t (fun t => vc Tryz.prog (orcOf [([1,1,1,1,1,1,1,1,1,1,1,0,1,0,1,1,1,1,1,1,1],F11_1O)]) [1,1,1,1,1,1,1,0,1,0,1,1,1,1,1,1,1] (getAt F11_code [1,1,1,1,1,1,1,0,1,0,1,1,1,1,1,1,1]) (F11_2C Kn) t w) := by kernel_rfl
theorem F11_2_ok : ∀ Q t w,F11_2O Q t w -> W Tryz.prog Tryz.f11.ntmps (getAt F11_code [1,1,1,1,1,1,1,0,1,0,1,1,1,1,1,1,1]) Q t w := by
  intro Q t w h
  unfold F11_2O at h
  rw [F11_2_step] at h
  refine (vc_sound mixed (orcCons (π := [1,1,1,1,1,1,1,1,1,1,1,0,1,0,1,1,1,1,1,1,1]) F11_1_ok (orcNil F11_code)) _ _ rfl (okC_at F11_code_ok [1,1,1,1,1,1,1,0,1,0,1,1,1,1,1,1,1]) _ _ _ (rsh_out h)).mono ?_
  intro o t w q
  cases o with
  | normal => exact out_ok [0,2,5] q
  | exit i => exact q.elim
  | ret => exact q.elim
def F11_3C (K2 : Value -> Value -> Value -> Value -> Value -> World -> Prop) : Post := fun o t w => match o with | .normal => False | .exit i => (match Nat.beq i 2 with | true => K2 (t 0) (t 2) (t 4) (t 5) (t 6) w | false => False) | .ret => False
def F11_3B (R : Value -> Value -> Value -> Value -> Value -> Value -> World -> Prop) (K2 : Value -> Value -> Value -> Value -> Value -> World -> Prop) (x0 : Value) (x2 : Value) (x4 : Value) (x5 : Value) (x6 : Value) (x7 : Value) (w : World) : Prop :=
  rdS x0 fun s1 => rdA x2 fun a2 => rdC x4 fun l3a l3n l3c => rdA x5 fun a4 => rdC x6 fun l5a l5n l5c => rdI .i64 x7 fun n6 => br (decide ((n6 : Int) < 6)) (ixS 1 l3a l3n n6 fun a7 => ldS a7 w fun s8 => Calls Tryz.prog 37 #[(.string s8)] w (en fun e10 w9 => ∃ n11,e10 = .returned (.int .u64 n11) /\ (ixS 1 l5a l5n n6 fun a12 => stc a12 (.int .i64 (IntKind.wrap .i64 ((Int.tmod n11 4398046511104)))) w9 fun w13 => R (.string s1) (.pointer (some a2)) (.slice l3a l3n l3c) (.pointer (some a4)) (.slice l5a l5n l5c) (.int .i64 (IntKind.wrap .i64 (n6 + 1))) w13))) (K2 (.string s1) (.pointer (some a2)) (.slice l3a l3n l3c) (.pointer (some a4)) (.slice l5a l5n l5c) w)
def F11_3 (K2 : Value -> Value -> Value -> Value -> Value -> World -> Prop) : Nat -> Value -> Value -> Value -> Value -> Value -> Value -> World -> Prop
  | 0 => fun _ _ _ _ _ _ _ => False
  | n + 1 => F11_3B (F11_3 K2 n) K2
def F11_3O (Q : Post) (t : Tm) (w : World) : Prop := ∃ n,F11_3 (fun y0 y2 y4 y5 y6 w => ∀ g,rsh [(0,(.one .str)),(2,(.one .adr)),(4,(.one .slc)),(5,(.one .adr)),(6,(.one .slc))] (upds g [(0,y0),(2,y2),(4,y4),(5,y5),(6,y6)]) fun t => Q (.exit 2) t w) n (t 0) (t 2) (t 4) (t 5) (t 6) (t 7) w
theorem F11_3_step (K2 : Value -> Value -> Value -> Value -> Value -> World -> Prop) (n : Nat) (t : Tm) (w : World) : (F11_3 K2 (n + 1) (t 0) (t 2) (t 4) (t 5) (t 6) (t 7) w) = rsh [(0,(.one .str)),(2,(.one .adr)),(4,(.one .slc)),(5,(.one .adr)),(6,(.one .slc)),(7,(.one (.int .i64)))] t (fun t => vc Tryz.prog (orcOf []) [0,0,1,0,1,1,1,1,1] (getAt F11_code [0,0,1,0,1,1,1,1,1]) (fun o t w => match o with | .normal => F11_3 K2 n (t 0) (t 2) (t 4) (t 5) (t 6) (t 7) w | .exit i => F11_3C K2 (.exit i) t w | .ret => F11_3C K2 .ret t w) t w) := by kernel_rfl
theorem F11_3_ok : ∀ Q t w,F11_3O Q t w -> W Tryz.prog Tryz.f11.ntmps (getAt F11_code [0,1,0,1,1,1,1,1]) Q t w := by
  intro Q t w ⟨n,h⟩
  refine (W_loop (P := Tryz.prog) (b := getAt F11_code [0,0,1,0,1,1,1,1,1]) (Q := F11_3C (fun y0 y2 y4 y5 y6 w => ∀ g,rsh [(0,(.one .str)),(2,(.one .adr)),(4,(.one .slc)),(5,(.one .adr)),(6,(.one .slc))] (upds g [(0,y0),(2,y2),(4,y4),(5,y5),(6,y6)]) fun t => Q (.exit 2) t w)) (G := fun n t w => F11_3 (fun y0 y2 y4 y5 y6 w => ∀ g,rsh [(0,(.one .str)),(2,(.one .adr)),(4,(.one .slc)),(5,(.one .adr)),(6,(.one .slc))] (upds g [(0,y0),(2,y2),(4,y4),(5,y5),(6,y6)]) fun t => Q (.exit 2) t w) n (t 0) (t 2) (t 4) (t 5) (t 6) (t 7) w) (fun _ _ h => h) (fun n t w h => ?_) n t w h).mono ?_
  · rw [F11_3_step] at h
    exact vc_sound mixed (orcNil F11_code) _ _ rfl (okC_at F11_code_ok [0,0,1,0,1,1,1,1,1]) _ _ _ (rsh_out h)
  · intro o t w q
    cases o with
    | normal => exact q.elim
    | exit i =>
      unfold F11_3C at q
      simp only at q
      split at q
      · rename_i hi
        rw [nbeq] at hi
        subst hi
        exact out_ok [0,2,4,5,6] q
      · exact q.elim
    | ret => exact q.elim
def F11_4C (Kr : Value -> Value -> World -> Prop) : Post := fun o t w => match o with | .normal => False | .exit _ => (False) | .ret => Kr (t 2) (t 3) w
def F11_4 (Kr : Value -> Value -> World -> Prop) (x0 : Value) (x2 : Value) (x5 : Value) (w : World) : Prop :=
  rdS x0 fun s1 => rdA x2 fun a2 => rdA x5 fun a3 => ldR26 a3 w fun s4 => Calls Tryz.prog 9 #[s4.v] w (en fun e6 w5 => ∃ s7,∃ n8,e6 = .returned (.tuple #[(.string s7),(.int .i64 n8)]) /\ (br (n8 != 0) (stcL a2 0 (R26.mk 0 0 0 0 0 0 0 0 0 false none 0 0 ⟨#[]⟩).l w5 fun w9 => Kr (.pointer (some a2)) (.int .i64 250) w9) (br (!(ByteArray.toList s7 == ByteArray.toList s1)) (stcL a2 0 (R26.mk 0 0 0 0 0 0 0 0 0 false none 0 0 ⟨#[]⟩).l w5 fun w10 => Kr (.pointer (some a2)) (.int .i64 250) w10) (ldR26 a3 w5 fun s11 => stcL a2 0 s11.l w5 fun w12 => Kr (.pointer (some a2)) (.int .i64 0) w12))))
def F11_4O (Q : Post) (t : Tm) (w : World) : Prop := F11_4 (fun y2 y3 w => ∀ g,rsh [(2,(.one .adr)),(3,(.one (.int .i64)))] (upds g [(2,y2),(3,y3)]) fun t => Q .ret t w) (t 0) (t 2) (t 5) w
theorem F11_4_step (Kr : Value -> Value -> World -> Prop) (t : Tm) (w : World) : (F11_4 Kr (t 0) (t 2) (t 5) w) = rsh [(0,(.one .str)),(2,(.one .adr)),(5,(.one .adr))] t (fun t => vc Tryz.prog (orcOf []) [1,1,1,1,1,1,1,1] (getAt F11_code [1,1,1,1,1,1,1,1]) (F11_4C Kr) t w) := by kernel_rfl
theorem F11_4_ok : ∀ Q t w,F11_4O Q t w -> W Tryz.prog Tryz.f11.ntmps (getAt F11_code [1,1,1,1,1,1,1,1]) Q t w := by
  intro Q t w h
  unfold F11_4O at h
  rw [F11_4_step] at h
  refine (vc_sound mixed (orcNil F11_code) _ _ rfl (okC_at F11_code_ok [1,1,1,1,1,1,1,1]) _ _ _ (rsh_out h)).mono ?_
  intro o t w q
  cases o with
  | normal => exact q.elim
  | exit i => exact q.elim
  | ret => exact out_ok [2,3] q
def F11_5C (K0 : Value -> Value -> Value -> World -> Prop) : Post := fun o t w => match o with | .normal => False | .exit i => (match Nat.beq i 0 with | true => K0 (t 0) (t 2) (t 4) w | false => False) | .ret => False
def F11_5B (R : Value -> Value -> Value -> World -> Prop) (K0 : Value -> Value -> Value -> World -> Prop) (x0 : Value) (x2 : Value) (x4 : Value) (w : World) : Prop :=
  rdS x0 fun s1 => rdA x2 fun a2 => rdC x4 fun l3a l3n l3c => br (decide (((l3n : Int) : Int) < 6)) (alc (.cells #[(.string ⟨#[]⟩)] 9) w fun b4 w5 => ∃ l6a l6n l6c w7,Sem.run Tryz.prog (Builtin.append_ #[77,77] 77 #[(.slice l3a l3n l3c),(.slice (some (Addr.mk b4 0 none)) 1 1)]) w5 = .ok (.slice l6a l6n l6c) w7 /\ (R (.string s1) (.pointer (some a2)) (.slice l6a l6n l6c) w7)) (K0 (.string s1) (.pointer (some a2)) (.slice l3a l3n l3c) w)
def F11_5 (K0 : Value -> Value -> Value -> World -> Prop) : Nat -> Value -> Value -> Value -> World -> Prop
  | 0 => fun _ _ _ _ => False
  | n + 1 => F11_5B (F11_5 K0 n) K0
def F11_5O (Q : Post) (t : Tm) (w : World) : Prop := ∃ n,F11_5 (fun y0 y2 y4 w => ∀ g,rsh [(0,(.one .str)),(2,(.one .adr)),(4,(.one .slc))] (upds g [(0,y0),(2,y2),(4,y4)]) fun t => Q (.exit 0) t w) n (t 0) (t 2) (t 4) w
theorem F11_5_step (K0 : Value -> Value -> Value -> World -> Prop) (n : Nat) (t : Tm) (w : World) : (F11_5 K0 (n + 1) (t 0) (t 2) (t 4) w) = rsh [(0,(.one .str)),(2,(.one .adr)),(4,(.one .slc))] t (fun t => vc Tryz.prog (orcOf []) [0,0,0,1,1] (getAt F11_code [0,0,0,1,1]) (fun o t w => match o with | .normal => F11_5 K0 n (t 0) (t 2) (t 4) w | .exit i => F11_5C K0 (.exit i) t w | .ret => F11_5C K0 .ret t w) t w) := by kernel_rfl
theorem F11_5_ok : ∀ Q t w,F11_5O Q t w -> W Tryz.prog Tryz.f11.ntmps (getAt F11_code [0,0,1,1]) Q t w := by
  intro Q t w ⟨n,h⟩
  refine (W_loop (P := Tryz.prog) (b := getAt F11_code [0,0,0,1,1]) (Q := F11_5C (fun y0 y2 y4 w => ∀ g,rsh [(0,(.one .str)),(2,(.one .adr)),(4,(.one .slc))] (upds g [(0,y0),(2,y2),(4,y4)]) fun t => Q (.exit 0) t w)) (G := fun n t w => F11_5 (fun y0 y2 y4 w => ∀ g,rsh [(0,(.one .str)),(2,(.one .adr)),(4,(.one .slc))] (upds g [(0,y0),(2,y2),(4,y4)]) fun t => Q (.exit 0) t w) n (t 0) (t 2) (t 4) w) (fun _ _ h => h) (fun n t w h => ?_) n t w h).mono ?_
  · rw [F11_5_step] at h
    exact vc_sound mixed (orcNil F11_code) _ _ rfl (okC_at F11_code_ok [0,0,0,1,1]) _ _ _ (rsh_out h)
  · intro o t w q
    cases o with
    | normal => exact q.elim
    | exit i =>
      unfold F11_5C at q
      simp only at q
      split at q
      · rename_i hi
        rw [nbeq] at hi
        subst hi
        exact out_ok [0,2,4] q
      · exact q.elim
    | ret => exact q.elim
def F11 (x0 : Value) (w : World) (K : Value -> World -> Prop) : Prop :=
  rdS x0 fun s1 => alc (.cells ((R26.mk 0 0 0 0 0 0 0 0 0 false none 0 0 ⟨#[]⟩)).c 27) w fun b2 w3 => Calls Tryz.prog 35 #[(.string s1)] w3 (en fun e5 w4 => ∃ l6a l6n l6c,e5 = .returned (.slice l6a l6n l6c) /\ (∃ k133 : Nat,F11_5 (fun y0_6 y2_6 y4_6 w8 => ∀ _g9 : Tm,rdS y0_6 fun s10 => rdA y2_6 fun a11 => rdC y4_6 fun l12a l12n l12c => ixS 1 l12a l12n 0 fun a13 => ldS a13 w8 fun s14 => Calls Tryz.prog 36 #[(.string s14)] w8 (en fun e16 w15 => ∃ n17,e16 = .returned (.int .i64 n17) /\ (alc (.cells ((R26.mk 0 0 0 0 0 0 0 0 0 false none 0 0 ⟨#[]⟩)).c 27) w15 fun b18 w19 => stcL (Addr.mk b18 0 none) 0 (R26.mk n17 0 0 0 0 0 0 0 0 false none 0 0 ⟨#[]⟩).l w19 fun w20 => ∃ l21a l21n l21c,∃ w22,Sem.run Tryz.prog (Instr.makeSlice 96 (.int .i64 6) (.int .i64 6)) w20 = .ok (.slice l21a l21n l21c) w22 /\ (∃ k132 : Nat,F11_3 (fun y0_22 y2_22 y4_22 y5_22 y6_22 w24 => ∀ _g25 : Tm,rdS y0_22 fun s26 => rdA y2_22 fun a27 => rdC y4_22 fun l28a l28n l28c => rdA y5_22 fun a29 => rdC y6_22 fun l30a l30n l30c => ixS 1 l30a l30n 1 fun a31 => ldI .i64 a31 w24 fun n32 => stc (a29.add 1) (.int .i64 n32) w24 fun w33 => ldI .i64 (a29.add 0) w33 fun n34 => br (n34 == 2) (drw w33 fun w35 => ∃ w36 : World,Pres w36 w35 /\ (ixS 1 l30a l30n 2 fun a37 => ldI .i64 a37 w36 fun n38 => ixS 1 l30a l30n 3 fun a39 => ldI .i64 a39 w36 fun n40 => ixS 1 l28a l28n 4 fun a41 => ldS a41 w36 fun s42 => ixS 1 l28a l28n 5 fun a43 => ldS a43 w35 fun s44 => Calls Tryz.prog 38 #[(.string s44)] w35 (en fun e46 w45 => ∃ l47a l47n l47c,e46 = .returned (.slice l47a l47n l47c) /\ (Pres w36 w45 /\ (stc (a29.add 7) (.int .u16 (IntKind.wrap .u16 (n38))) w45 fun w48 => Pres w36 w48 /\ (stc (a29.add 8) (.int .u32 (IntKind.wrap .u32 (n40))) w48 fun w49 => Pres w36 w49 /\ (stc (a29.add 9) (.bool (ByteArray.toList s42 == ByteArray.toList ⟨#[117]⟩)) w49 fun w50 => stc (a29.add 10) (.slice l47a l47n l47c) w50 fun w51 => F11_4 (fun y2_51 y3_51 w53 => ∀ _g54 : Tm,rdA y2_51 fun a55 => rdI .i64 y3_51 fun n56 => ldR26 a55 w53 fun s57 => K (.tuple #[s57.v,(.int .i64 n56)]) w53) (.string s26) (.pointer (some a27)) (.pointer (some a29)) w51))))))) (br (n34 == 5) (ixS 1 l28a l28n 2 fun a58 => ldS a58 w33 fun s59 => Calls Tryz.prog 38 #[(.string s59)] w33 (en fun e61 w60 => ∃ l62a l62n l62c,e61 = .returned (.slice l62a l62n l62c) /\ (∃ s63,∃ w64,Sem.run Tryz.prog (convert 25 9 (.slice l62a l62n l62c)) w60 = .ok (.string s63) w64 /\ (stc (a29.add 11) (.string s63) w64 fun w65 => F11_4 (fun y2_65 y3_65 w67 => ∀ _g68 : Tm,rdA y2_65 fun a69 => rdI .i64 y3_65 fun n70 => ldR26 a69 w67 fun s71 => K (.tuple #[s71.v,(.int .i64 n70)]) w67) (.string s26) (.pointer (some a27)) (.pointer (some a29)) w65)))) (br (n34 == 7) (drw w33 fun w72 => ∃ w73 : World,Pres w73 w72 /\ (ixS 1 l30a l30n 1 fun a74 => ldI .i64 a74 w73 fun n75 => stc (a29.add 1) (.int .i64 0) w72 fun w76 => Pres w73 w76 /\ (stc (a29.add 6) (.int .i64 n75) w76 fun w77 => F11_4 (fun y2_77 y3_77 w79 => ∀ _g80 : Tm,rdA y2_77 fun a81 => rdI .i64 y3_77 fun n82 => ldR26 a81 w79 fun s83 => K (.tuple #[s83.v,(.int .i64 n82)]) w79) (.string s26) (.pointer (some a27)) (.pointer (some a29)) w77))) (br (n34 == 8) (F11_2 (fun y0_83 y2_83 y5_83 w85 => ∀ _g86 : Tm,rdS y0_83 fun s87 => rdA y2_83 fun a88 => rdA y5_83 fun a89 => F11_4 (fun y2_89 y3_89 w91 => ∀ _g92 : Tm,rdA y2_89 fun a93 => rdI .i64 y3_89 fun n94 => ldR26 a93 w91 fun s95 => K (.tuple #[s95.v,(.int .i64 n94)]) w91) (.string s87) (.pointer (some a88)) (.pointer (some a89)) w85) (.string s26) (.pointer (some a27)) (.slice l28a l28n l28c) (.pointer (some a29)) (.slice l30a l30n l30c) (.int .i64 n34) (.bool true) w33) (br (n34 == 9) (F11_2 (fun y0_95 y2_95 y5_95 w97 => ∀ _g98 : Tm,rdS y0_95 fun s99 => rdA y2_95 fun a100 => rdA y5_95 fun a101 => F11_4 (fun y2_101 y3_101 w103 => ∀ _g104 : Tm,rdA y2_101 fun a105 => rdI .i64 y3_101 fun n106 => ldR26 a105 w103 fun s107 => K (.tuple #[s107.v,(.int .i64 n106)]) w103) (.string s99) (.pointer (some a100)) (.pointer (some a101)) w97) (.string s26) (.pointer (some a27)) (.slice l28a l28n l28c) (.pointer (some a29)) (.slice l30a l30n l30c) (.int .i64 n34) (.bool true) w33) (br (n34 == 10) (F11_2 (fun y0_107 y2_107 y5_107 w109 => ∀ _g110 : Tm,rdS y0_107 fun s111 => rdA y2_107 fun a112 => rdA y5_107 fun a113 => F11_4 (fun y2_113 y3_113 w115 => ∀ _g116 : Tm,rdA y2_113 fun a117 => rdI .i64 y3_113 fun n118 => ldR26 a117 w115 fun s119 => K (.tuple #[s119.v,(.int .i64 n118)]) w115) (.string s111) (.pointer (some a112)) (.pointer (some a113)) w109) (.string s26) (.pointer (some a27)) (.slice l28a l28n l28c) (.pointer (some a29)) (.slice l30a l30n l30c) (.int .i64 n34) (.bool true) w33) (F11_2 (fun y0_119 y2_119 y5_119 w121 => ∀ _g122 : Tm,rdS y0_119 fun s123 => rdA y2_119 fun a124 => rdA y5_119 fun a125 => F11_4 (fun y2_125 y3_125 w127 => ∀ _g128 : Tm,rdA y2_125 fun a129 => rdI .i64 y3_125 fun n130 => ldR26 a129 w127 fun s131 => K (.tuple #[s131.v,(.int .i64 n130)]) w127) (.string s123) (.pointer (some a124)) (.pointer (some a125)) w121) (.string s26) (.pointer (some a27)) (.slice l28a l28n l28c) (.pointer (some a29)) (.slice l30a l30n l30c) (.int .i64 n34) (.bool (n34 == 11)) w33))))))) k132 (.string s10) (.pointer (some a11)) (.slice l12a l12n l12c) (.pointer (some (Addr.mk b18 0 none))) (.slice l21a l21n l21c) (.int .i64 0) w22)))) k133 (.string s1) (.pointer (some (Addr.mk b2 0 none))) (.slice l6a l6n l6c) w4))
theorem F11_step (x0 : Value) (w : World) (K : Value -> World -> Prop) : (F11 x0 w K) = rsh [(0,(.one .str))] (args0 #[x0]) (fun t => vc Tryz.prog (orcOf [([1,1,1,1,1,1,1,1,1,1,1,0,1,0,1,1,1,1,1,1,1],F11_1O),([1,1,1,1,1,1,1,0,1,0,1,1,1,1,1,1,1],F11_2O),([0,1,0,1,1,1,1,1],F11_3O),([1,1,1,1,1,1,1,1],F11_4O),([0,0,1,1],F11_5O)]) [] F11_code (retQ Tryz.prog Tryz.f11 K) t w) := by kernel_rfl
theorem F11_ok {x0 : Value} {w : World} {K : Value -> World -> Prop} (h : F11 x0 w K) : Calls Tryz.prog 11 #[x0] w (rt K) := by
  rw [F11_step] at h
  exact Calls.mono (calls_of (c := F11_code) mixed Tryz.func11 rfl (nlt rfl) (vc_sound mixed (orcCons (π := [1,1,1,1,1,1,1,1,1,1,1,0,1,0,1,1,1,1,1,1,1]) F11_1_ok (orcCons (π := [1,1,1,1,1,1,1,0,1,0,1,1,1,1,1,1,1]) F11_2_ok (orcCons (π := [0,1,0,1,1,1,1,1]) F11_3_ok (orcCons (π := [1,1,1,1,1,1,1,1]) F11_4_ok (orcCons (π := [0,0,1,1]) F11_5_ok (orcNil F11_code)))))) F11_code [] rfl F11_code_ok _ _ _ (rsh_out h))) fun _ _ => rv_none
end Go.Proofs.YtilenpnpnbdndaaGreatDoor
