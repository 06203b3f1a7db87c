/- Own text: part of the shallow reading of the code and of the contracts that are proved over it. -/
import Derived.Test.YtilenpnpnbdndaaGreatDoorShDf
import Derived.KernelRfl
namespace Go.Proofs.YtilenpnpnbdndaaGreatDoor
open Go Go.Sh
set_option maxRecDepth 100000
set_option maxHeartbeats 4000000
attribute [local instance] Esc.none
noncomputable def F12_code : Code := Tryz.f12.body.getD .skip
theorem F12_code_ok : okC Tryz.prog Tryz.f12.ntmps F12_code = true := by kernel_rfl
def F12 (x0 : Value) (x1 : Value) (w : World) (K : Value -> World -> Prop) : Prop :=
 exR26 fun s1 => x0 = s1.v /\ (exR26 fun s2 => x1 = s2.v /\ (alc (.cells s1.c 27) w fun b3 w4 => alc (.cells s2.c 27) w4 fun b5 w6 => ldI .i64 ((Addr.mk b3 0 none).add 0) w6 fun n7 => ldI .i64 ((Addr.mk b5 0 none).add 0) w6 fun n8 => br (n7 == n8) (ldI .i64 ((Addr.mk b3 0 none).add 1) w6 fun n9 => ldI .i64 ((Addr.mk b5 0 none).add 1) w6 fun n10 => br (n9 == n10) (ldI .i64 ((Addr.mk b3 0 none).add 2) w6 fun n11 => ldI .i64 ((Addr.mk b5 0 none).add 2) w6 fun n12 => br (n11 == n12) (ldI .i64 ((Addr.mk b3 0 none).add 3) w6 fun n13 => ldI .i64 ((Addr.mk b5 0 none).add 3) w6 fun n14 => br (n13 == n14) (ldI .i64 ((Addr.mk b3 0 none).add 4) w6 fun n15 => ldI .i64 ((Addr.mk b5 0 none).add 4) w6 fun n16 => br (n15 == n16) (ldI .u8 ((Addr.mk b3 0 none).add 5) w6 fun n17 => ldI .u8 ((Addr.mk b5 0 none).add 5) w6 fun n18 => br (n17 == n18) (ldI .i64 ((Addr.mk b3 0 none).add 6) w6 fun n19 => ldI .i64 ((Addr.mk b5 0 none).add 6) w6 fun n20 => br (n19 == n20) (ldI .u16 ((Addr.mk b3 0 none).add 7) w6 fun n21 => ldI .u16 ((Addr.mk b5 0 none).add 7) w6 fun n22 => br (n21 == n22) (ldI .u32 ((Addr.mk b3 0 none).add 8) w6 fun n23 => ldI .u32 ((Addr.mk b5 0 none).add 8) w6 fun n24 => br (n23 == n24) (ldB ((Addr.mk b3 0 none).add 9) w6 fun b25 => ldB ((Addr.mk b5 0 none).add 9) w6 fun b26 => br (b25 == b26) (ldC ((Addr.mk b3 0 none).add 10) w6 fun l27a l27n l27c => ∃ s28,∃ w29,Sem.run Tryz.prog (convert 25 9 (.slice l27a l27n l27c)) w6 = .ok (.string s28) w29 /\ (ldC ((Addr.mk b5 0 none).add 10) w29 fun l30a l30n l30c => ∃ s31,∃ w32,Sem.run Tryz.prog (convert 25 9 (.slice l30a l30n l30c)) w29 = .ok (.string s31) w32 /\ (br (ByteArray.toList s28 == ByteArray.toList s31) (ldS ((Addr.mk b3 0 none).add 11) w32 fun s33 => ldS ((Addr.mk b5 0 none).add 11) w32 fun s34 => K (.bool (ByteArray.toList s33 == ByteArray.toList s34)) w32) (K (.bool false) w32)))) (K (.bool false) w6)) (K (.bool false) w6)) (K (.bool false) w6)) (K (.bool false) w6)) (K (.bool false) w6)) (K (.bool false) w6)) (K (.bool false) w6)) (K (.bool false) w6)) (K (.bool false) w6)) (K (.bool false) w6)))
theorem F12_step (x0 : Value) (x1 : Value) (w : World) (K : Value -> World -> Prop) : (F12 x0 x1 w K) = rsh [(0,(.agg [(.int .i64),(.int .i64),(.int .i64),(.int .i64),(.int .i64),(.int .u8),(.int .i64),(.int .u16),(.int .u32),.bool,.slc,.str])),(1,(.agg [(.int .i64),(.int .i64),(.int .i64),(.int .i64),(.int .i64),(.int .u8),(.int .i64),(.int .u16),(.int .u32),.bool,.slc,.str]))] (args0 #[x0,x1]) (fun t => vc Tryz.prog (orcOf []) [] F12_code (retQ Tryz.prog Tryz.f12 K) t w) := by kernel_rfl
theorem F12_ok {x0 x1 : Value} {w : World} {K : Value -> World -> Prop} (h : F12 x0 x1 w K) : Calls Tryz.prog 12 #[x0,x1] w (rt K) := by
 rw [F12_step] at h
 exact Calls.mono (calls_of (c := F12_code) mixed Tryz.func12 rfl (nlt rfl) (vc_sound mixed (orcNil F12_code) F12_code [] rfl F12_code_ok _ _ _ (rsh_out h))) fun _ _ => rv_none
noncomputable def F30_code : Code := Tryz.f30.body.getD .skip
theorem F30_code_ok : okC Tryz.prog Tryz.f30.ntmps F30_code = true := by kernel_rfl
def F30 (x0 : Value) (w : World) (K : Value -> World -> Prop) : Prop :=
 rdI .i64 x0 fun n1 => br (decide ((n1 : Int) >= 0)) (K (.bool (decide ((n1 : Int) <= 1099511627776))) w) (K (.bool false) w)
theorem F30_step (x0 : Value) (w : World) (K : Value -> World -> Prop) : (F30 x0 w K) = rsh [(0,(.one (.int .i64)))] (args0 #[x0]) (fun t => vc Tryz.prog (orcOf []) [] F30_code (retQ Tryz.prog Tryz.f30 K) t w) := by kernel_rfl
theorem F30_ok {x0 : Value} {w : World} {K : Value -> World -> Prop} (h : F30 x0 w K) : Calls Tryz.prog 30 #[x0] w (rt K) := by
 rw [F30_step] at h
 exact Calls.mono (calls_of (c := F30_code) mixed Tryz.func30 rfl (nlt rfl) (vc_sound mixed (orcNil F30_code) F30_code [] rfl F30_code_ok _ _ _ (rsh_out h))) fun _ _ => rv_none
noncomputable def F35_code : Code := Tryz.f35.body.getD .skip
theorem F35_code_ok : okC Tryz.prog Tryz.f35.ntmps F35_code = true := by kernel_rfl
def F35_1C (Kn : Value -> Value -> Value -> Value -> World -> Prop) : Post := fun o t w => match o with | .normal => Kn (t 0) (t 3) (t 4) (t 5) w | .exit _ => (False) | .ret => False
def F35_1 (Kn : Value -> Value -> Value -> Value -> World -> Prop) (x0 : Value) (x3 : Value) (x4 : Value) (x5 : Value) (x21 : Value) (w : World) : Prop :=
 rdS x0 fun s1 => rdC x3 fun l2a l2n l2c => rdI .i64 x4 fun n3 => rdI .i64 x5 fun n4 => rdB x21 fun b5 => br b5 (slT s1 (some (.int .i64 n3)) (some (.int .i64 n4)) fun s6 => alc (.cells #[(.string s6)] 9) w fun b7 w8 => ∃ l9a l9n l9c w10,Sem.run Tryz.prog (Builtin.append_ #[77,77] 77 #[(.slice l2a l2n l2c),(.slice (some (Addr.mk b7 0 none)) 1 1)]) w8 = .ok (.slice l9a l9n l9c) w10 /\ (Kn (.string s1) (.slice l9a l9n l9c) (.int .i64 (IntKind.wrap .i64 (n4 + 1))) (.int .i64 n4) w10)) (Kn (.string s1) (.slice l2a l2n l2c) (.int .i64 n3) (.int .i64 n4) w)
def F35_1O (Q : Post) (t : Tm) (w : World) : Prop := F35_1 (fun y0 y3 y4 y5 w => ∀ g,rsh [(0,(.one .str)),(3,(.one .slc)),(4,(.one (.int .i64))),(5,(.one (.int .i64)))] (upds g [(0,y0),(3,y3),(4,y4),(5,y5)]) fun t => Q .normal t w) (t 0) (t 3) (t 4) (t 5) (t 21) w
theorem F35_1_step (Kn : Value -> Value -> Value -> Value -> World -> Prop) (t : Tm) (w : World) : (F35_1 Kn (t 0) (t 3) (t 4) (t 5) (t 21) w) = rsh [(0,(.one .str)),(3,(.one .slc)),(4,(.one (.int .i64))),(5,(.one (.int .i64))),(21,(.one .bool))] t (fun t => vc Tryz.prog (orcOf []) [1,0,0,1,0,0,1,0,1,1,1] (getAt F35_code [1,0,0,1,0,0,1,0,1,1,1]) (F35_1C Kn) t w) := by kernel_rfl
theorem F35_1_ok : ∀ Q t w,F35_1O Q t w -> W Tryz.prog Tryz.f35.ntmps (getAt F35_code [1,0,0,1,0,0,1,0,1,1,1]) Q t w := by
 intro Q t w h
 unfold F35_1O at h
 rw [F35_1_step] at h
 refine (vc_sound mixed (orcNil F35_code) _ _ rfl (okC_at F35_code_ok [1,0,0,1,0,0,1,0,1,1,1]) _ _ _ (rsh_out h)).mono ?_
 intro o t w q
 cases o with
 | normal => exact out_ok [0,3,4,5] q
 | exit i => exact q.elim
 | ret => exact q.elim
def F35_2C (K0 : Value -> World -> Prop) : Post := fun o t w => match o with | .normal => False | .exit i => (match Nat.beq i 0 with | true => K0 (t 3) w | false => False) | .ret => False
def F35_2B (R : Value -> Value -> Value -> Value -> World -> Prop) (K0 : Value -> World -> Prop) (x0 : Value) (x3 : Value) (x4 : Value) (x5 : Value) (w : World) : Prop :=
 rdS x0 fun s1 => rdC x3 fun l2a l2n l2c => rdI .i64 x4 fun n3 => rdI .i64 x5 fun n4 => br (decide ((n4 : Int) <= (ByteArray.size s1 : Int))) (br (n4 == (ByteArray.size s1 : Int)) (F35_1 (fun y0_4 y3_4 y4_4 y5_4 w6 => ∀ _g7 : Tm,rdS y0_4 fun s8 => rdC y3_4 fun l9a l9n l9c => rdI .i64 y4_4 fun n10 => rdI .i64 y5_4 fun n11 => R (.string s8) (.slice l9a l9n l9c) (.int .i64 n10) (.int .i64 (IntKind.wrap .i64 (n11 + 1))) w6) (.string s1) (.slice l2a l2n l2c) (.int .i64 n3) (.int .i64 n4) (.bool true) w) (ixT s1 n4 fun n12 => F35_1 (fun y0_12 y3_12 y4_12 y5_12 w14 => ∀ _g15 : Tm,rdS y0_12 fun s16 => rdC y3_12 fun l17a l17n l17c => rdI .i64 y4_12 fun n18 => rdI .i64 y5_12 fun n19 => R (.string s16) (.slice l17a l17n l17c) (.int .i64 n18) (.int .i64 (IntKind.wrap .i64 (n19 + 1))) w14) (.string s1) (.slice l2a l2n l2c) (.int .i64 n3) (.int .i64 n4) (.bool (n12 == 32)) w)) (K0 (.slice l2a l2n l2c) w)
def F35_2 (K0 : Value -> World -> Prop) : Nat -> Value -> Value -> Value -> Value -> World -> Prop
 | 0 => fun _ _ _ _ _ => False
 | n + 1 => F35_2B (F35_2 K0 n) K0
def F35_2O (Q : Post) (t : Tm) (w : World) : Prop := ∃ n,F35_2 (fun y3 w => ∀ g,rsh [(3,(.one .slc))] (upds g [(3,y3)]) fun t => Q (.exit 0) t w) n (t 0) (t 3) (t 4) (t 5) w
theorem F35_2_step (K0 : Value -> World -> Prop) (n : Nat) (t : Tm) (w : World) : (F35_2 K0 (n + 1) (t 0) (t 3) (t 4) (t 5) w) = rsh [(0,(.one .str)),(3,(.one .slc)),(4,(.one (.int .i64))),(5,(.one (.int .i64)))] t (fun t => vc Tryz.prog (orcOf [([1,0,0,1,0,0,1,0,1,1,1],F35_1O)]) [0,0,1,0,1,1,1] (getAt F35_code [0,0,1,0,1,1,1]) (fun o t w => match o with | .normal => F35_2 K0 n (t 0) (t 3) (t 4) (t 5) w | .exit i => F35_2C K0 (.exit i) t w | .ret => F35_2C K0 .ret t w) t w) := by kernel_rfl
theorem F35_2_ok : ∀ Q t w,F35_2O Q t w -> W Tryz.prog Tryz.f35.ntmps (getAt F35_code [0,1,0,1,1,1]) Q t w := by
 intro Q t w ⟨n,h⟩
 refine (W_loop (P := Tryz.prog) (b := getAt F35_code [0,0,1,0,1,1,1]) (Q := F35_2C (fun y3 w => ∀ g,rsh [(3,(.one .slc))] (upds g [(3,y3)]) fun t => Q (.exit 0) t w)) (G := fun n t w => F35_2 (fun y3 w => ∀ g,rsh [(3,(.one .slc))] (upds g [(3,y3)]) fun t => Q (.exit 0) t w) n (t 0) (t 3) (t 4) (t 5) w) (fun _ _ h => h) (fun n t w h => ?_) n t w h).mono ?_
 ·rw [F35_2_step] at h
  exact vc_sound mixed (orcCons (π := [1,0,0,1,0,0,1,0,1,1,1]) F35_1_ok (orcNil F35_code)) _ _ rfl (okC_at F35_code_ok [0,0,1,0,1,1,1]) _ _ _ (rsh_out h)
 ·intro o t w q
  cases o with
  | normal => exact q.elim
  | exit i =>
   unfold F35_2C at q
   simp only at q
   split at q
   ·rename_i hi
    rw [nbeq] at hi
    subst hi
    exact out_ok [3] q
   ·exact q.elim
  | ret => exact q.elim
def F35 (x0 : Value) (w : World) (K : Value -> World -> Prop) : Prop :=
 rdS x0 fun s1 => ∃ k6 : Nat,F35_2 (fun y3_1 w3 => ∀ _g4 : Tm,rdC y3_1 fun l5a l5n l5c => K (.slice l5a l5n l5c) w3) k6 (.string s1) (.slice none 0 0) (.int .i64 0) (.int .i64 0) w
theorem F35_step (x0 : Value) (w : World) (K : Value -> World -> Prop) : (F35 x0 w K) = rsh [(0,(.one .str))] (args0 #[x0]) (fun t => vc Tryz.prog (orcOf [([1,0,0,1,0,0,1,0,1,1,1],F35_1O),([0,1,0,1,1,1],F35_2O)]) [] F35_code (retQ Tryz.prog Tryz.f35 K) t w) := by kernel_rfl
theorem F35_ok {x0 : Value} {w : World} {K : Value -> World -> Prop} (h : F35 x0 w K) : Calls Tryz.prog 35 #[x0] w (rt K) := by
 rw [F35_step] at h
 exact Calls.mono (calls_of (c := F35_code) mixed Tryz.func35 rfl (nlt rfl) (vc_sound mixed (orcCons (π := [1,0,0,1,0,0,1,0,1,1,1]) F35_1_ok (orcCons (π := [0,1,0,1,1,1]) F35_2_ok (orcNil F35_code))) F35_code [] rfl F35_code_ok _ _ _ (rsh_out h))) fun _ _ => rv_none
noncomputable def F36_code : Code := Tryz.f36.body.getD .skip
theorem F36_code_ok : okC Tryz.prog Tryz.f36.ntmps F36_code = true := by kernel_rfl
def F36_1C (K0 : World -> Prop) (Kr : Value -> World -> Prop) : Post := fun o t w => match o with | .normal => False | .exit i => (match Nat.beq i 0 with | true => K0  w | false => False) | .ret => Kr (t 2) w
def F36_1B (R : Value -> Value -> Value -> World -> Prop) (K0 : World -> Prop) (Kr : Value -> World -> Prop) (x0 : Value) (x3 : Value) (x4 : Value) (w : World) : Prop :=
 rdS x0 fun s1 => rdC x3 fun l2a l2n l2c => rdI .i64 x4 fun n3 => br (decide ((n3 : Int) < (l2n : Int))) (ixS 1 l2a l2n n3 fun a4 => ldS a4 w fun s5 => br (ByteArray.toList s5 == ByteArray.toList s1) (Kr (.int .i64 (IntKind.wrap .i64 (n3 + 1))) w) (R (.string s1) (.slice l2a l2n l2c) (.int .i64 (IntKind.wrap .i64 (n3 + 1))) w)) (K0 w)
def F36_1 (K0 : World -> Prop) (Kr : Value -> World -> Prop) : Nat -> Value -> Value -> Value -> World -> Prop
 | 0 => fun _ _ _ _ => False
 | n + 1 => F36_1B (F36_1 K0 Kr n) K0 Kr
def F36_1O (Q : Post) (t : Tm) (w : World) : Prop := ∃ n,F36_1 (fun w => ∀ g,rsh [] (upds g []) fun t => Q (.exit 0) t w) (fun y2 w => ∀ g,rsh [(2,(.one (.int .i64)))] (upds g [(2,y2)]) fun t => Q .ret t w) n (t 0) (t 3) (t 4) w
theorem F36_1_step (K0 : World -> Prop) (Kr : Value -> World -> Prop) (n : Nat) (t : Tm) (w : World) : (F36_1 K0 Kr (n + 1) (t 0) (t 3) (t 4) w) = rsh [(0,(.one .str)),(3,(.one .slc)),(4,(.one (.int .i64)))] t (fun t => vc Tryz.prog (orcOf []) [0,0,1,0,1,1] (getAt F36_code [0,0,1,0,1,1]) (fun o t w => match o with | .normal => F36_1 K0 Kr n (t 0) (t 3) (t 4) w | .exit i => F36_1C K0 Kr (.exit i) t w | .ret => F36_1C K0 Kr .ret t w) t w) := by kernel_rfl
theorem F36_1_ok : ∀ Q t w,F36_1O Q t w -> W Tryz.prog Tryz.f36.ntmps (getAt F36_code [0,1,0,1,1]) Q t w := by
 intro Q t w ⟨n,h⟩
 refine (W_loop (P := Tryz.prog) (b := getAt F36_code [0,0,1,0,1,1]) (Q := F36_1C (fun w => ∀ g,rsh [] (upds g []) fun t => Q (.exit 0) t w) (fun y2 w => ∀ g,rsh [(2,(.one (.int .i64)))] (upds g [(2,y2)]) fun t => Q .ret t w)) (G := fun n t w => F36_1 (fun w => ∀ g,rsh [] (upds g []) fun t => Q (.exit 0) t w) (fun y2 w => ∀ g,rsh [(2,(.one (.int .i64)))] (upds g [(2,y2)]) fun t => Q .ret t w) n (t 0) (t 3) (t 4) w) (fun _ _ h => h) (fun n t w h => ?_) n t w h).mono ?_
 ·rw [F36_1_step] at h
  exact vc_sound mixed (orcNil F36_code) _ _ rfl (okC_at F36_code_ok [0,0,1,0,1,1]) _ _ _ (rsh_out h)
 ·intro o t w q
  cases o with
  | normal => exact q.elim
  | exit i =>
   unfold F36_1C at q
   simp only at q
   split at q
   ·rename_i hi
    rw [nbeq] at hi
    subst hi
    exact out_ok [] q
   ·exact q.elim
  | ret => exact out_ok [2] q
def F36 (x0 : Value) (w : World) (K : Value -> World -> Prop) : Prop :=
 rdS x0 fun s1 => alc (.cells #[(.string ⟨#[111,112,101,110]⟩),(.string ⟨#[115,101,110,100]⟩),(.string ⟨#[114,101,99,101,105,118,101]⟩),(.string ⟨#[115,104,117,116,100,111,119,110]⟩),(.string ⟨#[97,98,111,114,116]⟩),(.string ⟨#[116,105,99,107]⟩),(.string ⟨#[99,108,111,99,107]⟩),(.string ⟨#[100,101,108,105,118,101,114]⟩),(.string ⟨#[100,114,111,112]⟩),(.string ⟨#[116,119,105,99,101]⟩),(.string ⟨#[115,112,111,105,108]⟩),(.string ⟨#[102,111,114,103,101]⟩),(.string ⟨#[100,111,119,110]⟩),(.string ⟨#[117,112]⟩)] 9) w fun b2 w3 => ∃ k11 : Nat,F36_1 (fun w5 => ∀ _g6 : Tm,K (.int .i64 0) w5) (fun y2_6 w8 => ∀ _g9 : Tm,rdI .i64 y2_6 fun n10 => K (.int .i64 n10) w8) k11 (.string s1) (.slice (some (Addr.mk b2 0 none)) 14 14) (.int .i64 0) w3
theorem F36_step (x0 : Value) (w : World) (K : Value -> World -> Prop) : (F36 x0 w K) = rsh [(0,(.one .str))] (args0 #[x0]) (fun t => vc Tryz.prog (orcOf [([0,1,0,1,1],F36_1O)]) [] F36_code (retQ Tryz.prog Tryz.f36 K) t w) := by kernel_rfl
theorem F36_ok {x0 : Value} {w : World} {K : Value -> World -> Prop} (h : F36 x0 w K) : Calls Tryz.prog 36 #[x0] w (rt K) := by
 rw [F36_step] at h
 exact Calls.mono (calls_of (c := F36_code) mixed Tryz.func36 rfl (nlt rfl) (vc_sound mixed (orcCons (π := [0,1,0,1,1]) F36_1_ok (orcNil F36_code)) F36_code [] rfl F36_code_ok _ _ _ (rsh_out h))) fun _ _ => rv_none
noncomputable def F37_code : Code := Tryz.f37.body.getD .skip
theorem F37_code_ok : okC Tryz.prog Tryz.f37.ntmps F37_code = true := by kernel_rfl
def F37_1C (Kn : Value -> Value -> Value -> World -> Prop) : Post := fun o t w => match o with | .normal => Kn (t 0) (t 3) (t 4) w | .exit _ => (False) | .ret => False
def F37_1 (Kn : Value -> Value -> Value -> World -> Prop) (x0 : Value) (x3 : Value) (x4 : Value) (w : World) : Prop :=
 rdS x0 fun s1 => rdI .u64 x3 fun n2 => rdI .i64 x4 fun n3 => ixT s1 n3 fun n4 => Kn (.string s1) (.int .u64 (IntKind.wrap .u64 ((IntKind.wrap .u64 (n2 * 10)) + (Int.tmod (IntKind.wrap .u64 ((IntKind.wrap .u8 (n4 - 48)))) 10)))) (.int .i64 (IntKind.wrap .i64 (n3 + 1))) w
def F37_1O (Q : Post) (t : Tm) (w : World) : Prop := F37_1 (fun y0 y3 y4 w => ∀ g,rsh [(0,(.one .str)),(3,(.one (.int .u64))),(4,(.one (.int .i64)))] (upds g [(0,y0),(3,y3),(4,y4)]) fun t => Q .normal t w) (t 0) (t 3) (t 4) w
theorem F37_1_step (Kn : Value -> Value -> Value -> World -> Prop) (t : Tm) (w : World) : (F37_1 Kn (t 0) (t 3) (t 4) w) = rsh [(0,(.one .str)),(3,(.one (.int .u64))),(4,(.one (.int .i64)))] t (fun t => vc Tryz.prog (orcOf []) [1,0,0,1,0,1,1] (getAt F37_code [1,0,0,1,0,1,1]) (F37_1C Kn) t w) := by kernel_rfl
theorem F37_1_ok : ∀ Q t w,F37_1O Q t w -> W Tryz.prog Tryz.f37.ntmps (getAt F37_code [1,0,0,1,0,1,1]) Q t w := by
 intro Q t w h
 unfold F37_1O at h
 rw [F37_1_step] at h
 refine (vc_sound mixed (orcNil F37_code) _ _ rfl (okC_at F37_code_ok [1,0,0,1,0,1,1]) _ _ _ (rsh_out h)).mono ?_
 intro o t w q
 cases o with
 | normal => exact out_ok [0,3,4] q
 | exit i => exact q.elim
 | ret => exact q.elim
def F37_2C (K0 : Value -> World -> Prop) : Post := fun o t w => match o with | .normal => False | .exit i => (match Nat.beq i 0 with | true => K0 (t 3) w | false => False) | .ret => False
def F37_2B (R : Value -> Value -> Value -> World -> Prop) (K0 : Value -> World -> Prop) (x0 : Value) (x3 : Value) (x4 : Value) (w : World) : Prop :=
 rdS x0 fun s1 => rdI .u64 x3 fun n2 => rdI .i64 x4 fun n3 => br (decide ((n3 : Int) < (ByteArray.size s1 : Int))) (br (decide ((n3 : Int) < 20)) (F37_1 (fun y0_3 y3_3 y4_3 w5 => ∀ _g6 : Tm,rdS y0_3 fun s7 => rdI .u64 y3_3 fun n8 => rdI .i64 y4_3 fun n9 => R (.string s7) (.int .u64 n8) (.int .i64 n9) w5) (.string s1) (.int .u64 n2) (.int .i64 n3) w) (K0 (.int .u64 n2) w)) (K0 (.int .u64 n2) w)
def F37_2 (K0 : Value -> World -> Prop) : Nat -> Value -> Value -> Value -> World -> Prop
 | 0 => fun _ _ _ _ => False
 | n + 1 => F37_2B (F37_2 K0 n) K0
def F37_2O (Q : Post) (t : Tm) (w : World) : Prop := ∃ n,F37_2 (fun y3 w => ∀ g,rsh [(3,(.one (.int .u64)))] (upds g [(3,y3)]) fun t => Q (.exit 0) t w) n (t 0) (t 3) (t 4) w
theorem F37_2_step (K0 : Value -> World -> Prop) (n : Nat) (t : Tm) (w : World) : (F37_2 K0 (n + 1) (t 0) (t 3) (t 4) w) = rsh [(0,(.one .str)),(3,(.one (.int .u64))),(4,(.one (.int .i64)))] t (fun t => vc Tryz.prog (orcOf [([1,0,0,1,0,1,1],F37_1O)]) [0,0,1,0,1,1] (getAt F37_code [0,0,1,0,1,1]) (fun o t w => match o with | .normal => F37_2 K0 n (t 0) (t 3) (t 4) w | .exit i => F37_2C K0 (.exit i) t w | .ret => F37_2C K0 .ret t w) t w) := by kernel_rfl
theorem F37_2_ok : ∀ Q t w,F37_2O Q t w -> W Tryz.prog Tryz.f37.ntmps (getAt F37_code [0,1,0,1,1]) Q t w := by
 intro Q t w ⟨n,h⟩
 refine (W_loop (P := Tryz.prog) (b := getAt F37_code [0,0,1,0,1,1]) (Q := F37_2C (fun y3 w => ∀ g,rsh [(3,(.one (.int .u64)))] (upds g [(3,y3)]) fun t => Q (.exit 0) t w)) (G := fun n t w => F37_2 (fun y3 w => ∀ g,rsh [(3,(.one (.int .u64)))] (upds g [(3,y3)]) fun t => Q (.exit 0) t w) n (t 0) (t 3) (t 4) w) (fun _ _ h => h) (fun n t w h => ?_) n t w h).mono ?_
 ·rw [F37_2_step] at h
  exact vc_sound mixed (orcCons (π := [1,0,0,1,0,1,1]) F37_1_ok (orcNil F37_code)) _ _ rfl (okC_at F37_code_ok [0,0,1,0,1,1]) _ _ _ (rsh_out h)
 ·intro o t w q
  cases o with
  | normal => exact q.elim
  | exit i =>
   unfold F37_2C at q
   simp only at q
   split at q
   ·rename_i hi
    rw [nbeq] at hi
    subst hi
    exact out_ok [3] q
   ·exact q.elim
  | ret => exact q.elim
def F37 (x0 : Value) (w : World) (K : Value -> World -> Prop) : Prop :=
 rdS x0 fun s1 => ∃ k6 : Nat,F37_2 (fun y3_1 w3 => ∀ _g4 : Tm,rdI .u64 y3_1 fun n5 => K (.int .u64 n5) w3) k6 (.string s1) (.int .u64 0) (.int .i64 0) w
theorem F37_step (x0 : Value) (w : World) (K : Value -> World -> Prop) : (F37 x0 w K) = rsh [(0,(.one .str))] (args0 #[x0]) (fun t => vc Tryz.prog (orcOf [([1,0,0,1,0,1,1],F37_1O),([0,1,0,1,1],F37_2O)]) [] F37_code (retQ Tryz.prog Tryz.f37 K) t w) := by kernel_rfl
theorem F37_ok {x0 : Value} {w : World} {K : Value -> World -> Prop} (h : F37 x0 w K) : Calls Tryz.prog 37 #[x0] w (rt K) := by
 rw [F37_step] at h
 exact Calls.mono (calls_of (c := F37_code) mixed Tryz.func37 rfl (nlt rfl) (vc_sound mixed (orcCons (π := [1,0,0,1,0,1,1]) F37_1_ok (orcCons (π := [0,1,0,1,1]) F37_2_ok (orcNil F37_code))) F37_code [] rfl F37_code_ok _ _ _ (rsh_out h))) fun _ _ => rv_none
noncomputable def F38_code : Code := Tryz.f38.body.getD .skip
theorem F38_code_ok : okC Tryz.prog Tryz.f38.ntmps F38_code = true := by kernel_rfl
def F38_1C (K0 : Value -> World -> Prop) : Post := fun o t w => match o with | .normal => False | .exit i => (match Nat.beq i 0 with | true => K0 (t 3) w | false => False) | .ret => False
def F38_1B (R : Value -> Value -> Value -> World -> Prop) (K0 : Value -> World -> Prop) (x0 : Value) (x3 : Value) (x4 : Value) (w : World) : Prop :=
 rdS x0 fun s1 => rdC x3 fun l2a l2n l2c => rdI .i64 x4 fun n3 => br (decide (((IntKind.wrap .i64 (n3 + 1)) : Int) < (ByteArray.size s1 : Int))) (drw w fun w4 => ixT s1 n3 fun n5 => ixT s1 (IntKind.wrap .i64 (n3 + 1)) fun n6 => Calls Tryz.prog 56 #[(.int .u8 n5)] w4 (en fun e8 w7 => ∃ n9,e8 = .returned (.int .i64 n9) /\ (Calls Tryz.prog 56 #[(.int .u8 n6)] w7 (en fun e11 w10 => ∃ n12,e11 = .returned (.int .i64 n12) /\ (alc (.cells #[(.int .u8 (IntKind.wrap .u8 ((IntKind.wrap .i64 ((IntKind.wrap .i64 (n9 * 16)) + n12)))))] 5) w10 fun b13 w14 => ∃ l15a l15n l15c w16,Sem.run Tryz.prog (Builtin.append_ #[25,25] 25 #[(.slice l2a l2n l2c),(.slice (some (Addr.mk b13 0 none)) 1 1)]) w14 = .ok (.slice l15a l15n l15c) w16 /\ (R (.string s1) (.slice l15a l15n l15c) (.int .i64 (IntKind.wrap .i64 (n3 + 2))) w16)))))) (K0 (.slice l2a l2n l2c) w)
def F38_1 (K0 : Value -> World -> Prop) : Nat -> Value -> Value -> Value -> World -> Prop
 | 0 => fun _ _ _ _ => False
 | n + 1 => F38_1B (F38_1 K0 n) K0
def F38_1O (Q : Post) (t : Tm) (w : World) : Prop := ∃ n,F38_1 (fun y3 w => ∀ g,rsh [(3,(.one .slc))] (upds g [(3,y3)]) fun t => Q (.exit 0) t w) n (t 0) (t 3) (t 4) w
theorem F38_1_step (K0 : Value -> World -> Prop) (n : Nat) (t : Tm) (w : World) : (F38_1 K0 (n + 1) (t 0) (t 3) (t 4) w) = rsh [(0,(.one .str)),(3,(.one .slc)),(4,(.one (.int .i64)))] t (fun t => vc Tryz.prog (orcOf []) [0,0,1,0,1,1] (getAt F38_code [0,0,1,0,1,1]) (fun o t w => match o with | .normal => F38_1 K0 n (t 0) (t 3) (t 4) w | .exit i => F38_1C K0 (.exit i) t w | .ret => F38_1C K0 .ret t w) t w) := by kernel_rfl
theorem F38_1_ok : ∀ Q t w,F38_1O Q t w -> W Tryz.prog Tryz.f38.ntmps (getAt F38_code [0,1,0,1,1]) Q t w := by
 intro Q t w ⟨n,h⟩
 refine (W_loop (P := Tryz.prog) (b := getAt F38_code [0,0,1,0,1,1]) (Q := F38_1C (fun y3 w => ∀ g,rsh [(3,(.one .slc))] (upds g [(3,y3)]) fun t => Q (.exit 0) t w)) (G := fun n t w => F38_1 (fun y3 w => ∀ g,rsh [(3,(.one .slc))] (upds g [(3,y3)]) fun t => Q (.exit 0) t w) n (t 0) (t 3) (t 4) w) (fun _ _ h => h) (fun n t w h => ?_) n t w h).mono ?_
 ·rw [F38_1_step] at h
  exact vc_sound mixed (orcNil F38_code) _ _ rfl (okC_at F38_code_ok [0,0,1,0,1,1]) _ _ _ (rsh_out h)
 ·intro o t w q
  cases o with
  | normal => exact q.elim
  | exit i =>
   unfold F38_1C at q
   simp only at q
   split at q
   ·rename_i hi
    rw [nbeq] at hi
    subst hi
    exact out_ok [3] q
   ·exact q.elim
  | ret => exact q.elim
def F38 (x0 : Value) (w : World) (K : Value -> World -> Prop) : Prop :=
 rdS x0 fun s1 => ∃ k6 : Nat,F38_1 (fun y3_1 w3 => ∀ _g4 : Tm,rdC y3_1 fun l5a l5n l5c => K (.slice l5a l5n l5c) w3) k6 (.string s1) (.slice none 0 0) (.int .i64 0) w
theorem F38_step (x0 : Value) (w : World) (K : Value -> World -> Prop) : (F38 x0 w K) = rsh [(0,(.one .str))] (args0 #[x0]) (fun t => vc Tryz.prog (orcOf [([0,1,0,1,1],F38_1O)]) [] F38_code (retQ Tryz.prog Tryz.f38 K) t w) := by kernel_rfl
theorem F38_ok {x0 : Value} {w : World} {K : Value -> World -> Prop} (h : F38 x0 w K) : Calls Tryz.prog 38 #[x0] w (rt K) := by
 rw [F38_step] at h
 exact Calls.mono (calls_of (c := F38_code) mixed Tryz.func38 rfl (nlt rfl) (vc_sound mixed (orcCons (π := [0,1,0,1,1]) F38_1_ok (orcNil F38_code)) F38_code [] rfl F38_code_ok _ _ _ (rsh_out h))) fun _ _ => rv_none
noncomputable def F41_code : Code := Tryz.f41.body.getD .skip
theorem F41_code_ok : okC Tryz.prog Tryz.f41.ntmps F41_code = true := by kernel_rfl
def F41_1C (K0 : Value -> World -> Prop) : Post := fun o t w => match o with | .normal => False | .exit i => (match Nat.beq i 0 with | true => K0 (t 3) w | false => False) | .ret => False
def F41_1B (R : Value -> Value -> Value -> World -> Prop) (K0 : Value -> World -> Prop) (x0 : Value) (x3 : Value) (x4 : Value) (w : World) : Prop :=
 rdC x0 fun l1a l1n l1c => rdC x3 fun l2a l2n l2c => rdI .i64 x4 fun n3 => br (decide ((n3 : Int) < (l1n : Int))) (drw w fun w4 => ixS 1 l1a l1n n3 fun a5 => ldI .u8 a5 w4 fun n6 => ixT ⟨#[48,49,50,51,52,53,54,55,56,57,97,98,99,100,101,102]⟩ (IntKind.wrap .u8 (Int.tdiv n6 16)) fun n7 => ixS 1 l1a l1n n3 fun a8 => ldI .u8 a8 w4 fun n9 => ixT ⟨#[48,49,50,51,52,53,54,55,56,57,97,98,99,100,101,102]⟩ (Int.tmod n9 16) fun n10 => alc (.cells #[(.int .u8 n7),(.int .u8 n10)] 5) w4 fun b11 w12 => ∃ l13a l13n l13c w14,Sem.run Tryz.prog (Builtin.append_ #[25,25] 25 #[(.slice l2a l2n l2c),(.slice (some (Addr.mk b11 0 none)) 2 2)]) w12 = .ok (.slice l13a l13n l13c) w14 /\ (R (.slice l1a l1n l1c) (.slice l13a l13n l13c) (.int .i64 (IntKind.wrap .i64 (n3 + 1))) w14)) (K0 (.slice l2a l2n l2c) w)
def F41_1 (K0 : Value -> World -> Prop) : Nat -> Value -> Value -> Value -> World -> Prop
 | 0 => fun _ _ _ _ => False
 | n + 1 => F41_1B (F41_1 K0 n) K0
def F41_1O (Q : Post) (t : Tm) (w : World) : Prop := ∃ n,F41_1 (fun y3 w => ∀ g,rsh [(3,(.one .slc))] (upds g [(3,y3)]) fun t => Q (.exit 0) t w) n (t 0) (t 3) (t 4) w
theorem F41_1_step (K0 : Value -> World -> Prop) (n : Nat) (t : Tm) (w : World) : (F41_1 K0 (n + 1) (t 0) (t 3) (t 4) w) = rsh [(0,(.one .slc)),(3,(.one .slc)),(4,(.one (.int .i64)))] t (fun t => vc Tryz.prog (orcOf []) [0,0,1,0,1,1,1] (getAt F41_code [0,0,1,0,1,1,1]) (fun o t w => match o with | .normal => F41_1 K0 n (t 0) (t 3) (t 4) w | .exit i => F41_1C K0 (.exit i) t w | .ret => F41_1C K0 .ret t w) t w) := by kernel_rfl
theorem F41_1_ok : ∀ Q t w,F41_1O Q t w -> W Tryz.prog Tryz.f41.ntmps (getAt F41_code [0,1,0,1,1,1]) Q t w := by
 intro Q t w ⟨n,h⟩
 refine (W_loop (P := Tryz.prog) (b := getAt F41_code [0,0,1,0,1,1,1]) (Q := F41_1C (fun y3 w => ∀ g,rsh [(3,(.one .slc))] (upds g [(3,y3)]) fun t => Q (.exit 0) t w)) (G := fun n t w => F41_1 (fun y3 w => ∀ g,rsh [(3,(.one .slc))] (upds g [(3,y3)]) fun t => Q (.exit 0) t w) n (t 0) (t 3) (t 4) w) (fun _ _ h => h) (fun n t w h => ?_) n t w h).mono ?_
 ·rw [F41_1_step] at h
  exact vc_sound mixed (orcNil F41_code) _ _ rfl (okC_at F41_code_ok [0,0,1,0,1,1,1]) _ _ _ (rsh_out h)
 ·intro o t w q
  cases o with
  | normal => exact q.elim
  | exit i =>
   unfold F41_1C at q
   simp only at q
   split at q
   ·rename_i hi
    rw [nbeq] at hi
    subst hi
    exact out_ok [3] q
   ·exact q.elim
  | ret => exact q.elim
def F41 (x0 : Value) (w : World) (K : Value -> World -> Prop) : Prop :=
 rdC x0 fun l1a l1n l1c => br ((l1n : Int) == 0) (K (.string ⟨#[45]⟩) w) (∃ k8 : Nat,F41_1 (fun y3_1 w3 => ∀ _g4 : Tm,rdC y3_1 fun l5a l5n l5c => ∃ s6,∃ w7,Sem.run Tryz.prog (convert 25 9 (.slice l5a l5n l5c)) w3 = .ok (.string s6) w7 /\ (K (.string s6) w7)) k8 (.slice l1a l1n l1c) (.slice none 0 0) (.int .i64 0) w)
theorem F41_step (x0 : Value) (w : World) (K : Value -> World -> Prop) : (F41 x0 w K) = rsh [(0,(.one .slc))] (args0 #[x0]) (fun t => vc Tryz.prog (orcOf [([0,1,0,1,1,1],F41_1O)]) [] F41_code (retQ Tryz.prog Tryz.f41 K) t w) := by kernel_rfl
theorem F41_ok {x0 : Value} {w : World} {K : Value -> World -> Prop} (h : F41 x0 w K) : Calls Tryz.prog 41 #[x0] w (rt K) := by
 rw [F41_step] at h
 exact Calls.mono (calls_of (c := F41_code) mixed Tryz.func41 rfl (nlt rfl) (vc_sound mixed (orcCons (π := [0,1,0,1,1,1]) F41_1_ok (orcNil F41_code)) F41_code [] rfl F41_code_ok _ _ _ (rsh_out h))) fun _ _ => rv_none
noncomputable def F42_code : Code := Tryz.f42.body.getD .skip
theorem F42_code_ok : okC Tryz.prog Tryz.f42.ntmps F42_code = true := by kernel_rfl
def F42 (x0 : Value) (w : World) (K : Value -> World -> Prop) : Prop :=
 exR49 fun s1 => x0 = s1.v /\ (alc (.cells s1.c 50) w fun b2 w3 => drw w3 fun w4 => ∃ w5 : World,Pres w5 w4 /\ (ldI .i64 (((Addr.mk b2 0 none).add 0).add 17) w5 fun n6 => ldI .u32 (((Addr.mk b2 0 none).add 0).add 18) w5 fun n7 => ldI .u16 (((Addr.mk b2 0 none).add 0).add 19) w5 fun n8 => ldI .u16 (((Addr.mk b2 0 none).add 0).add 20) w5 fun n9 => ldI .i64 (((Addr.mk b2 0 none).add 0).add 21) w5 fun n10 => ldI .i64 (((Addr.mk b2 0 none).add 0).add 22) w5 fun n11 => ldI .u16 (((Addr.mk b2 0 none).add 0).add 23) w5 fun n12 => ldI .u16 (((Addr.mk b2 0 none).add 0).add 24) w5 fun n13 => ldI .i64 ((Addr.mk b2 0 none).add 25) w5 fun n14 => ldI .i64 ((Addr.mk b2 0 none).add 26) w5 fun n15 => ldI .i64 ((Addr.mk b2 0 none).add 27) w5 fun n16 => ldI .i64 (((Addr.mk b2 0 none).add 28).add 0) w5 fun n17 => ldI .i64 (((Addr.mk b2 0 none).add 28).add 1) w5 fun n18 => ldI .i64 (((Addr.mk b2 0 none).add 28).add 2) w5 fun n19 => ldI .i64 (((Addr.mk b2 0 none).add 31).add 0) w5 fun n20 => ldI .i64 (((Addr.mk b2 0 none).add 31).add 1) w5 fun n21 => ldI .i64 (((Addr.mk b2 0 none).add 31).add 2) w5 fun n22 => ldI .i64 ((Addr.mk b2 0 none).add 34) w5 fun n23 => ldI .i64 ((Addr.mk b2 0 none).add 35) w5 fun n24 => ldI .i64 ((Addr.mk b2 0 none).add 36) w5 fun n25 => ldI .i64 ((Addr.mk b2 0 none).add 37) w5 fun n26 => ldB ((Addr.mk b2 0 none).add 38) w4 fun b27 => ldB ((Addr.mk b2 0 none).add 39) w5 fun b28 => ldB ((Addr.mk b2 0 none).add 40) w5 fun b29 => Calls Tryz.prog 64 #[(.bool b27)] w4 (en fun e31 w30 => ∃ n32,e31 = .returned (.int .i64 n32) /\ (Pres w5 w30 /\ (Calls Tryz.prog 64 #[(.bool b28)] w30 (en fun e34 w33 => ∃ n35,e34 = .returned (.int .i64 n35) /\ (Pres w5 w33 /\ (Calls Tryz.prog 64 #[(.bool b29)] w33 (en fun e37 w36 => ∃ n38,e37 = .returned (.int .i64 n38) /\ (Pres w5 w36 /\ (alc (.cells #[(.int .i64 n6),(.int .i64 (IntKind.wrap .i64 (n7))),(.int .i64 (IntKind.wrap .i64 (n8))),(.int .i64 (IntKind.wrap .i64 (n9))),(.int .i64 n10),(.int .i64 n11),(.int .i64 (IntKind.wrap .i64 (n12))),(.int .i64 (IntKind.wrap .i64 (n13))),(.int .i64 n14),(.int .i64 n15),(.int .i64 n16),(.int .i64 n17),(.int .i64 n18),(.int .i64 n19),(.int .i64 n20),(.int .i64 n21),(.int .i64 n22),(.int .i64 n23),(.int .i64 n24),(.int .i64 n25),(.int .i64 n26),(.int .i64 n32),(.int .i64 n35),(.int .i64 n38)] 3) w36 fun b39 w40 => K (.slice (some (Addr.mk b39 0 none)) 24 24) w40)))))))))))
theorem F42_step (x0 : Value) (w : World) (K : Value -> World -> Prop) : (F42 x0 w K) = rsh [(0,(.agg [(.int .u8),(.int .u8),(.int .u8),(.int .u8),(.int .u8),(.int .u8),(.int .u8),(.int .u8),(.int .u8),(.int .u8),(.int .u8),(.int .u8),(.int .u8),(.int .u8),(.int .u8),(.int .u8),(.int .u64),(.int .i64),(.int .u32),(.int .u16),(.int .u16),(.int .i64),(.int .i64),(.int .u16),(.int .u16),(.int .i64),(.int .i64),(.int .i64),(.int .i64),(.int .i64),(.int .i64),(.int .i64),(.int .i64),(.int .i64),(.int .i64),(.int .i64),(.int .i64),(.int .i64),.bool,.bool,.bool]))] (args0 #[x0]) (fun t => vc Tryz.prog (orcOf []) [] F42_code (retQ Tryz.prog Tryz.f42 K) t w) := by kernel_rfl
theorem F42_ok {x0 : Value} {w : World} {K : Value -> World -> Prop} (h : F42 x0 w K) : Calls Tryz.prog 42 #[x0] w (rt K) := by
 rw [F42_step] at h
 exact Calls.mono (calls_of (c := F42_code) mixed Tryz.func42 rfl (nlt rfl) (vc_sound mixed (orcNil F42_code) F42_code [] rfl F42_code_ok _ _ _ (rsh_out h))) fun _ _ => rv_none
noncomputable def F43_code : Code := Tryz.f43.body.getD .skip
theorem F43_code_ok : okC Tryz.prog Tryz.f43.ntmps F43_code = true := by kernel_rfl
def F43 (w : World) (K : Value -> World -> Prop) : Prop :=
 alc (.cells #[(.string ⟨#[108,105,102,101]⟩),(.string ⟨#[119,105,110,100,111,119]⟩),(.string ⟨#[111,117,116]⟩),(.string ⟨#[105,110]⟩),(.string ⟨#[116,114,105,101,115]⟩),(.string ⟨#[108,97,115,116,115]⟩),(.string ⟨#[112,111,114,116]⟩),(.string ⟨#[112,101,101,114]⟩),(.string ⟨#[112,97,116,104,115]⟩),(.string ⟨#[109,116,117]⟩),(.string ⟨#[98,117,102,102,101,114]⟩),(.string ⟨#[105,110,105,116]⟩),(.string ⟨#[109,105,110]⟩),(.string ⟨#[109,97,120]⟩),(.string ⟨#[101,114,114,111,114,115]⟩),(.string ⟨#[102,97,105,108]⟩),(.string ⟨#[112,97,117,115,101]⟩),(.string ⟨#[109,111,115,116]⟩),(.string ⟨#[100,101,108,97,121]⟩),(.string ⟨#[115,99,104,101,100]⟩),(.string ⟨#[99,97,112]⟩),(.string ⟨#[115,112,108,105,116]⟩),(.string ⟨#[110,114]⟩),(.string ⟨#[99,111,117,112,108,101]⟩)] 9) w fun b1 w2 => K (.slice (some (Addr.mk b1 0 none)) 24 24) w2
theorem F43_step (w : World) (K : Value -> World -> Prop) : (F43  w K) = rsh [] (args0 #[]) (fun t => vc Tryz.prog (orcOf []) [] F43_code (retQ Tryz.prog Tryz.f43 K) t w) := by kernel_rfl
theorem F43_ok {w : World} {K : Value -> World -> Prop} (h : F43 w K) : Calls Tryz.prog 43 #[] w (rt K) := by
 rw [F43_step] at h
 exact Calls.mono (calls_of (c := F43_code) mixed Tryz.func43 rfl (nlt rfl) (vc_sound mixed (orcNil F43_code) F43_code [] rfl F43_code_ok _ _ _ (rsh_out h))) fun _ _ => rv_none
noncomputable def F53_code : Code := Tryz.f53.body.getD .skip
theorem F53_code_ok : okC Tryz.prog Tryz.f53.ntmps F53_code = true := by kernel_rfl
def F53_1C (K0 : Value -> World -> Prop) : Post := fun o t w => match o with | .normal => False | .exit i => (match Nat.beq i 0 with | true => K0 (t 0) w | false => False) | .ret => False
def F53_1B (R : Value -> Value -> Value -> World -> Prop) (K0 : Value -> World -> Prop) (x0 : Value) (x1 : Value) (x5 : Value) (w : World) : Prop :=
 rdS x0 fun s1 => rdC x1 fun l2a l2n l2c => rdI .i64 x5 fun n3 => br (decide ((n3 : Int) < (l2n : Int))) (cat s1 ⟨#[32]⟩ fun s4 => ixS 1 l2a l2n n3 fun a5 => ldI .i64 a5 w fun n6 => Calls Tryz.prog 44 #[(.int .i64 n6)] w (en fun e8 w7 => ∃ s9,e8 = .returned (.string s9) /\ (cat s4 s9 fun s10 => R (.string s10) (.slice l2a l2n l2c) (.int .i64 (IntKind.wrap .i64 (n3 + 1))) w7))) (K0 (.string s1) w)
def F53_1 (K0 : Value -> World -> Prop) : Nat -> Value -> Value -> Value -> World -> Prop
 | 0 => fun _ _ _ _ => False
 | n + 1 => F53_1B (F53_1 K0 n) K0
def F53_1O (Q : Post) (t : Tm) (w : World) : Prop := ∃ n,F53_1 (fun y0 w => ∀ g,rsh [(0,(.one .str))] (upds g [(0,y0)]) fun t => Q (.exit 0) t w) n (t 0) (t 1) (t 5) w
theorem F53_1_step (K0 : Value -> World -> Prop) (n : Nat) (t : Tm) (w : World) : (F53_1 K0 (n + 1) (t 0) (t 1) (t 5) w) = rsh [(0,(.one .str)),(1,(.one .slc)),(5,(.one (.int .i64)))] t (fun t => vc Tryz.prog (orcOf []) [0,0,1,0,1] (getAt F53_code [0,0,1,0,1]) (fun o t w => match o with | .normal => F53_1 K0 n (t 0) (t 1) (t 5) w | .exit i => F53_1C K0 (.exit i) t w | .ret => F53_1C K0 .ret t w) t w) := by kernel_rfl
theorem F53_1_ok : ∀ Q t w,F53_1O Q t w -> W Tryz.prog Tryz.f53.ntmps (getAt F53_code [0,1,0,1]) Q t w := by
 intro Q t w ⟨n,h⟩
 refine (W_loop (P := Tryz.prog) (b := getAt F53_code [0,0,1,0,1]) (Q := F53_1C (fun y0 w => ∀ g,rsh [(0,(.one .str))] (upds g [(0,y0)]) fun t => Q (.exit 0) t w)) (G := fun n t w => F53_1 (fun y0 w => ∀ g,rsh [(0,(.one .str))] (upds g [(0,y0)]) fun t => Q (.exit 0) t w) n (t 0) (t 1) (t 5) w) (fun _ _ h => h) (fun n t w h => ?_) n t w h).mono ?_
 ·rw [F53_1_step] at h
  exact vc_sound mixed (orcNil F53_code) _ _ rfl (okC_at F53_code_ok [0,0,1,0,1]) _ _ _ (rsh_out h)
 ·intro o t w q
  cases o with
  | normal => exact q.elim
  | exit i =>
   unfold F53_1C at q
   simp only at q
   split at q
   ·rename_i hi
    rw [nbeq] at hi
    subst hi
    exact out_ok [0] q
   ·exact q.elim
  | ret => exact q.elim
def F53 (x0 : Value) (x1 : Value) (w : World) (K : Value -> World -> Prop) : Prop :=
 rdS x0 fun s1 => rdC x1 fun l2a l2n l2c => ∃ k7 : Nat,F53_1 (fun y0_2 w4 => ∀ _g5 : Tm,rdS y0_2 fun s6 => K (.string s6) w4) k7 (.string s1) (.slice l2a l2n l2c) (.int .i64 0) w
theorem F53_step (x0 : Value) (x1 : Value) (w : World) (K : Value -> World -> Prop) : (F53 x0 x1 w K) = rsh [(0,(.one .str)),(1,(.one .slc))] (args0 #[x0,x1]) (fun t => vc Tryz.prog (orcOf [([0,1,0,1],F53_1O)]) [] F53_code (retQ Tryz.prog Tryz.f53 K) t w) := by kernel_rfl
theorem F53_ok {x0 x1 : Value} {w : World} {K : Value -> World -> Prop} (h : F53 x0 x1 w K) : Calls Tryz.prog 53 #[x0,x1] w (rt K) := by
 rw [F53_step] at h
 exact Calls.mono (calls_of (c := F53_code) mixed Tryz.func53 rfl (nlt rfl) (vc_sound mixed (orcCons (π := [0,1,0,1]) F53_1_ok (orcNil F53_code)) F53_code [] rfl F53_code_ok _ _ _ (rsh_out h))) fun _ _ => rv_none
noncomputable def F54_code : Code := Tryz.f54.body.getD .skip
theorem F54_code_ok : okC Tryz.prog Tryz.f54.ntmps F54_code = true := by kernel_rfl
def F54 (x0 : Value) (w : World) (K : Value -> World -> Prop) : Prop :=
 rdB x0 fun b1 => br b1 (K (.string ⟨#[117]⟩) w) (K (.string ⟨#[111]⟩) w)
theorem F54_step (x0 : Value) (w : World) (K : Value -> World -> Prop) : (F54 x0 w K) = rsh [(0,(.one .bool))] (args0 #[x0]) (fun t => vc Tryz.prog (orcOf []) [] F54_code (retQ Tryz.prog Tryz.f54 K) t w) := by kernel_rfl
theorem F54_ok {x0 : Value} {w : World} {K : Value -> World -> Prop} (h : F54 x0 w K) : Calls Tryz.prog 54 #[x0] w (rt K) := by
 rw [F54_step] at h
 exact Calls.mono (calls_of (c := F54_code) mixed Tryz.func54 rfl (nlt rfl) (vc_sound mixed (orcNil F54_code) F54_code [] rfl F54_code_ok _ _ _ (rsh_out h))) fun _ _ => rv_none
noncomputable def F56_code : Code := Tryz.f56.body.getD .skip
theorem F56_code_ok : okC Tryz.prog Tryz.f56.ntmps F56_code = true := by kernel_rfl
def F56_1C (K0 : World -> Prop) (Kr : Value -> World -> Prop) : Post := fun o t w => match o with | .normal => False | .exit i => (match Nat.beq i 0 with | true => K0  w | false => False) | .ret => Kr (t 2) w
def F56_1B (R : Value -> Value -> World -> Prop) (K0 : World -> Prop) (Kr : Value -> World -> Prop) (x0 : Value) (x3 : Value) (w : World) : Prop :=
 rdI .u8 x0 fun n1 => rdI .i64 x3 fun n2 => br (decide ((n2 : Int) < 16)) (ixT ⟨#[48,49,50,51,52,53,54,55,56,57,97,98,99,100,101,102]⟩ n2 fun n3 => br (n3 == n1) (Kr (.int .i64 n2) w) (R (.int .u8 n1) (.int .i64 (IntKind.wrap .i64 (n2 + 1))) w)) (K0 w)
def F56_1 (K0 : World -> Prop) (Kr : Value -> World -> Prop) : Nat -> Value -> Value -> World -> Prop
 | 0 => fun _ _ _ => False
 | n + 1 => F56_1B (F56_1 K0 Kr n) K0 Kr
def F56_1O (Q : Post) (t : Tm) (w : World) : Prop := ∃ n,F56_1 (fun w => ∀ g,rsh [] (upds g []) fun t => Q (.exit 0) t w) (fun y2 w => ∀ g,rsh [(2,(.one (.int .i64)))] (upds g [(2,y2)]) fun t => Q .ret t w) n (t 0) (t 3) w
theorem F56_1_step (K0 : World -> Prop) (Kr : Value -> World -> Prop) (n : Nat) (t : Tm) (w : World) : (F56_1 K0 Kr (n + 1) (t 0) (t 3) w) = rsh [(0,(.one (.int .u8))),(3,(.one (.int .i64)))] t (fun t => vc Tryz.prog (orcOf []) [0,0,1,0,1] (getAt F56_code [0,0,1,0,1]) (fun o t w => match o with | .normal => F56_1 K0 Kr n (t 0) (t 3) w | .exit i => F56_1C K0 Kr (.exit i) t w | .ret => F56_1C K0 Kr .ret t w) t w) := by kernel_rfl
theorem F56_1_ok : ∀ Q t w,F56_1O Q t w -> W Tryz.prog Tryz.f56.ntmps (getAt F56_code [0,1,0,1]) Q t w := by
 intro Q t w ⟨n,h⟩
 refine (W_loop (P := Tryz.prog) (b := getAt F56_code [0,0,1,0,1]) (Q := F56_1C (fun w => ∀ g,rsh [] (upds g []) fun t => Q (.exit 0) t w) (fun y2 w => ∀ g,rsh [(2,(.one (.int .i64)))] (upds g [(2,y2)]) fun t => Q .ret t w)) (G := fun n t w => F56_1 (fun w => ∀ g,rsh [] (upds g []) fun t => Q (.exit 0) t w) (fun y2 w => ∀ g,rsh [(2,(.one (.int .i64)))] (upds g [(2,y2)]) fun t => Q .ret t w) n (t 0) (t 3) w) (fun _ _ h => h) (fun n t w h => ?_) n t w h).mono ?_
 ·rw [F56_1_step] at h
  exact vc_sound mixed (orcNil F56_code) _ _ rfl (okC_at F56_code_ok [0,0,1,0,1]) _ _ _ (rsh_out h)
 ·intro o t w q
  cases o with
  | normal => exact q.elim
  | exit i =>
   unfold F56_1C at q
   simp only at q
   split at q
   ·rename_i hi
    rw [nbeq] at hi
    subst hi
    exact out_ok [] q
   ·exact q.elim
  | ret => exact out_ok [2] q
def F56 (x0 : Value) (w : World) (K : Value -> World -> Prop) : Prop :=
 rdI .u8 x0 fun n1 => ∃ k9 : Nat,F56_1 (fun w3 => ∀ _g4 : Tm,K (.int .i64 0) w3) (fun y2_4 w6 => ∀ _g7 : Tm,rdI .i64 y2_4 fun n8 => K (.int .i64 n8) w6) k9 (.int .u8 n1) (.int .i64 0) w
theorem F56_step (x0 : Value) (w : World) (K : Value -> World -> Prop) : (F56 x0 w K) = rsh [(0,(.one (.int .u8)))] (args0 #[x0]) (fun t => vc Tryz.prog (orcOf [([0,1,0,1],F56_1O)]) [] F56_code (retQ Tryz.prog Tryz.f56 K) t w) := by kernel_rfl
theorem F56_ok {x0 : Value} {w : World} {K : Value -> World -> Prop} (h : F56 x0 w K) : Calls Tryz.prog 56 #[x0] w (rt K) := by
 rw [F56_step] at h
 exact Calls.mono (calls_of (c := F56_code) mixed Tryz.func56 rfl (nlt rfl) (vc_sound mixed (orcCons (π := [0,1,0,1]) F56_1_ok (orcNil F56_code)) F56_code [] rfl F56_code_ok _ _ _ (rsh_out h))) fun _ _ => rv_none
noncomputable def F64_code : Code := Tryz.f64.body.getD .skip
theorem F64_code_ok : okC Tryz.prog Tryz.f64.ntmps F64_code = true := by kernel_rfl
def F64 (x0 : Value) (w : World) (K : Value -> World -> Prop) : Prop :=
 rdB x0 fun b1 => br b1 (K (.int .i64 1) w) (K (.int .i64 0) w)
theorem F64_step (x0 : Value) (w : World) (K : Value -> World -> Prop) : (F64 x0 w K) = rsh [(0,(.one .bool))] (args0 #[x0]) (fun t => vc Tryz.prog (orcOf []) [] F64_code (retQ Tryz.prog Tryz.f64 K) t w) := by kernel_rfl
theorem F64_ok {x0 : Value} {w : World} {K : Value -> World -> Prop} (h : F64 x0 w K) : Calls Tryz.prog 64 #[x0] w (rt K) := by
 rw [F64_step] at h
 exact Calls.mono (calls_of (c := F64_code) mixed Tryz.func64 rfl (nlt rfl) (vc_sound mixed (orcNil F64_code) F64_code [] rfl F64_code_ok _ _ _ (rsh_out h))) fun _ _ => rv_none
end Go.Proofs.YtilenpnpnbdndaaGreatDoor
