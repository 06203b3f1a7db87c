/- Own text: part of the shallow reading of the code and of the contracts that are proved over it. -/
import Derived.Test.YtilenpnpnbdndaaGreatDoorShDf
import Derived.KernelRfl
import Derived.Test.YtilenpnpnbdndaaGreatDoorSrL
import Derived.Test.YtilenpnpnbdndaaGreatDoorSqA
import Derived.Lib.Bytealg
namespace Go.Proofs.YtilenpnpnbdndaaGreatDoor
open Go Go.Sh
set_option maxRecDepth 100000
set_option maxHeartbeats 4000000
attribute [local instance] Esc.none
noncomputable def F104_code : Code := Tryz.f104.body.getD .skip
theorem F104_code_ok : okC Tryz.prog Tryz.f104.ntmps F104_code = true := by kernel_rfl
def F104_1C (Kn : Value -> Value -> Value -> Value -> Value -> Value -> Value -> Value -> World -> Prop) (Kr : Value -> World -> Prop) : Post := fun o t w => match o with | .normal => Kn (t 0) (t 1) (t 5) (t 6) (t 7) (t 8) (t 9) (t 10) w | .exit _ => (False) | .ret => Kr (t 4) w
def F104_1 (Kn : Value -> Value -> Value -> Value -> Value -> Value -> Value -> Value -> World -> Prop) (Kr : Value -> World -> Prop) (x0 : Value) (x1 : Value) (x5 : Value) (x6 : Value) (x7 : Value) (x8 : Value) (x9 : Value) (x10 : Value) (x132 : Value) (w : World) : Prop :=
 rdS x0 fun s1 => rdS x1 fun s2 => rdI .i64 x5 fun n3 => rdI .u8 x6 fun n4 => rdI .u8 x7 fun n5 => rdI .i64 x8 fun n6 => rdI .i64 x9 fun n7 => rdI .i64 x10 fun n8 => rdB x132 fun b9 => br b9 (slT s1 (some (.int .i64 n6)) none fun s10 => Calls Tryz.prog 118 #[(.string s10),(.string s2)] w (en fun e12 w11 => ∃ n13,e12 = .returned (.int .i64 n13) /\ (br (decide ((n13 : Int) < 0)) (Kr (.int .i64 (-1)) w11) (Kr (.int .i64 (IntKind.wrap .i64 (n6 + n13))) w11)))) (Kn (.string s1) (.string s2) (.int .i64 n3) (.int .u8 n4) (.int .u8 n5) (.int .i64 n6) (.int .i64 n7) (.int .i64 n8) w)
def F104_1O (Q : Post) (t : Tm) (w : World) : Prop := F104_1 (fun y0 y1 y5 y6 y7 y8 y9 y10 w => ∀ g,rsh [(0,(.one .str)),(1,(.one .str)),(5,(.one (.int .i64))),(6,(.one (.int .u8))),(7,(.one (.int .u8))),(8,(.one (.int .i64))),(9,(.one (.int .i64))),(10,(.one (.int .i64)))] (upds g [(0,y0),(1,y1),(5,y5),(6,y6),(7,y7),(8,y8),(9,y9),(10,y10)]) fun t => Q .normal t w) (fun y4 w => ∀ g,rsh [(4,(.one (.int .i64)))] (upds g [(4,y4)]) fun t => Q .ret t w) (t 0) (t 1) (t 5) (t 6) (t 7) (t 8) (t 9) (t 10) (t 132) w
theorem F104_1_step (Kn : Value -> Value -> Value -> Value -> Value -> Value -> Value -> Value -> World -> Prop) (Kr : Value -> World -> Prop) (t : Tm) (w : World) : (F104_1 Kn Kr (t 0) (t 1) (t 5) (t 6) (t 7) (t 8) (t 9) (t 10) (t 132) w) = rsh [(0,(.one .str)),(1,(.one .str)),(5,(.one (.int .i64))),(6,(.one (.int .u8))),(7,(.one (.int .u8))),(8,(.one (.int .i64))),(9,(.one (.int .i64))),(10,(.one (.int .i64))),(132,(.one .bool))] t (fun t => vc Tryz.prog (orcOf []) [1,1,1,1,1,1,1,0,1,0,0,0,1,1,1,1,1,1,1,1] (getAt F104_code [1,1,1,1,1,1,1,0,1,0,0,0,1,1,1,1,1,1,1,1]) (F104_1C Kn Kr) t w) := by kernel_rfl
theorem F104_1_ok : ∀ Q t w,F104_1O Q t w -> W Tryz.prog Tryz.f104.ntmps (getAt F104_code [1,1,1,1,1,1,1,0,1,0,0,0,1,1,1,1,1,1,1,1]) Q t w := by
 intro Q t w h
 unfold F104_1O at h
 rw [F104_1_step] at h
 refine (vc_sound mixed (orcNil F104_code) _ _ rfl (okC_at F104_code_ok [1,1,1,1,1,1,1,0,1,0,0,0,1,1,1,1,1,1,1,1]) _ _ _ (rsh_out h)).mono ?_
 intro o t w q
 cases o with
 | normal => exact out_ok [0,1,5,6,7,8,9,10] q
 | exit i => exact q.elim
 | ret => exact out_ok [4] q
def F104_2C (Kn : Value -> Value -> Value -> Value -> Value -> Value -> Value -> Value -> World -> Prop) (Kr : Value -> World -> Prop) : Post := fun o t w => match o with | .normal => Kn (t 0) (t 1) (t 5) (t 6) (t 7) (t 8) (t 9) (t 10) w | .exit _ => (False) | .ret => Kr (t 4) w
def F104_2 (Kn : Value -> Value -> Value -> Value -> Value -> Value -> Value -> Value -> World -> Prop) (Kr : Value -> World -> Prop) (x0 : Value) (x1 : Value) (x5 : Value) (x6 : Value) (x7 : Value) (x8 : Value) (x9 : Value) (x10 : Value) (x107 : Value) (w : World) : Prop :=
 rdS x0 fun s1 => rdS x1 fun s2 => rdI .i64 x5 fun n3 => rdI .u8 x6 fun n4 => rdI .u8 x7 fun n5 => rdI .i64 x8 fun n6 => rdI .i64 x9 fun n7 => rdI .i64 x10 fun n8 => rdB x107 fun b9 => br b9 (slT s1 (some (.int .i64 n6)) none fun s10 => ∃ n12,∃ w11,Sem.run Tryz.prog (callFunc 116 #[(.string s10),(.string s2)]) w = .ok (.value (.int .i64 n12)) w11 /\ (br (decide ((n12 : Int) >= 0)) (Kr (.int .i64 (IntKind.wrap .i64 (n12 + n6))) w11) (Kr (.int .i64 (-1)) w11))) (ldI .i64 (Addr.mk 1 0 none) w fun n13 => br (decide ((n3 : Int) > n13)) (br (decide ((n8 : Int) >= (IntKind.wrap .i64 (4 + (Int.fdiv n6 (2 ^ (min 4 (IntKind.bits .i64)))))))) (F104_1 (fun y0_13 y1_13 y5_13 y6_13 y7_13 y8_13 y9_13 y10_13 w15 => ∀ _g16 : Tm,rdS y0_13 fun s17 => rdS y1_13 fun s18 => rdI .i64 y5_13 fun n19 => rdI .u8 y6_13 fun n20 => rdI .u8 y7_13 fun n21 => rdI .i64 y8_13 fun n22 => rdI .i64 y9_13 fun n23 => rdI .i64 y10_13 fun n24 => Kn (.string s17) (.string s18) (.int .i64 n19) (.int .u8 n20) (.int .u8 n21) (.int .i64 n22) (.int .i64 n23) (.int .i64 n24) w15) (fun y4_24 w26 => ∀ _g27 : Tm,rdI .i64 y4_24 fun n28 => Kr (.int .i64 n28) w26) (.string s1) (.string s2) (.int .i64 n3) (.int .u8 n4) (.int .u8 n5) (.int .i64 n6) (.int .i64 n7) (.int .i64 n8) (.bool (decide ((n6 : Int) < n7))) w) (F104_1 (fun y0_28 y1_28 y5_28 y6_28 y7_28 y8_28 y9_28 y10_28 w30 => ∀ _g31 : Tm,rdS y0_28 fun s32 => rdS y1_28 fun s33 => rdI .i64 y5_28 fun n34 => rdI .u8 y6_28 fun n35 => rdI .u8 y7_28 fun n36 => rdI .i64 y8_28 fun n37 => rdI .i64 y9_28 fun n38 => rdI .i64 y10_28 fun n39 => Kn (.string s32) (.string s33) (.int .i64 n34) (.int .u8 n35) (.int .u8 n36) (.int .i64 n37) (.int .i64 n38) (.int .i64 n39) w30) (fun y4_39 w41 => ∀ _g42 : Tm,rdI .i64 y4_39 fun n43 => Kr (.int .i64 n43) w41) (.string s1) (.string s2) (.int .i64 n3) (.int .u8 n4) (.int .u8 n5) (.int .i64 n6) (.int .i64 n7) (.int .i64 n8) (.bool false) w)) (F104_1 (fun y0_43 y1_43 y5_43 y6_43 y7_43 y8_43 y9_43 y10_43 w45 => ∀ _g46 : Tm,rdS y0_43 fun s47 => rdS y1_43 fun s48 => rdI .i64 y5_43 fun n49 => rdI .u8 y6_43 fun n50 => rdI .u8 y7_43 fun n51 => rdI .i64 y8_43 fun n52 => rdI .i64 y9_43 fun n53 => rdI .i64 y10_43 fun n54 => Kn (.string s47) (.string s48) (.int .i64 n49) (.int .u8 n50) (.int .u8 n51) (.int .i64 n52) (.int .i64 n53) (.int .i64 n54) w45) (fun y4_54 w56 => ∀ _g57 : Tm,rdI .i64 y4_54 fun n58 => Kr (.int .i64 n58) w56) (.string s1) (.string s2) (.int .i64 n3) (.int .u8 n4) (.int .u8 n5) (.int .i64 n6) (.int .i64 n7) (.int .i64 n8) (.bool false) w))
def F104_2O (Q : Post) (t : Tm) (w : World) : Prop := F104_2 (fun y0 y1 y5 y6 y7 y8 y9 y10 w => ∀ g,rsh [(0,(.one .str)),(1,(.one .str)),(5,(.one (.int .i64))),(6,(.one (.int .u8))),(7,(.one (.int .u8))),(8,(.one (.int .i64))),(9,(.one (.int .i64))),(10,(.one (.int .i64)))] (upds g [(0,y0),(1,y1),(5,y5),(6,y6),(7,y7),(8,y8),(9,y9),(10,y10)]) fun t => Q .normal t w) (fun y4 w => ∀ g,rsh [(4,(.one (.int .i64)))] (upds g [(4,y4)]) fun t => Q .ret t w) (t 0) (t 1) (t 5) (t 6) (t 7) (t 8) (t 9) (t 10) (t 107) w
theorem F104_2_step (Kn : Value -> Value -> Value -> Value -> Value -> Value -> Value -> Value -> World -> Prop) (Kr : Value -> World -> Prop) (t : Tm) (w : World) : (F104_2 Kn Kr (t 0) (t 1) (t 5) (t 6) (t 7) (t 8) (t 9) (t 10) (t 107) w) = rsh [(0,(.one .str)),(1,(.one .str)),(5,(.one (.int .i64))),(6,(.one (.int .u8))),(7,(.one (.int .u8))),(8,(.one (.int .i64))),(9,(.one (.int .i64))),(10,(.one (.int .i64))),(107,(.one .bool))] t (fun t => vc Tryz.prog (orcOf [([1,1,1,1,1,1,1,0,1,0,0,0,1,1,1,1,1,1,1,1],F104_1O)]) [1,1,1,1,1,0,1,0,0,0,1,1,1,1,1,1,1,1] (getAt F104_code [1,1,1,1,1,0,1,0,0,0,1,1,1,1,1,1,1,1]) (F104_2C Kn Kr) t w) := by kernel_rfl
theorem F104_2_ok : ∀ Q t w,F104_2O Q t w -> W Tryz.prog Tryz.f104.ntmps (getAt F104_code [1,1,1,1,1,0,1,0,0,0,1,1,1,1,1,1,1,1]) Q t w := by
 intro Q t w h
 unfold F104_2O at h
 rw [F104_2_step] at h
 refine (vc_sound mixed (orcCons (π := [1,1,1,1,1,1,1,0,1,0,0,0,1,1,1,1,1,1,1,1]) F104_1_ok (orcNil F104_code)) _ _ rfl (okC_at F104_code_ok [1,1,1,1,1,0,1,0,0,0,1,1,1,1,1,1,1,1]) _ _ _ (rsh_out h)).mono ?_
 intro o t w q
 cases o with
 | normal => exact out_ok [0,1,5,6,7,8,9,10] q
 | exit i => exact q.elim
 | ret => exact out_ok [4] q
def F104_3C (Kn : Value -> Value -> Value -> Value -> Value -> Value -> Value -> Value -> World -> Prop) (Kr : Value -> World -> Prop) : Post := fun o t w => match o with | .normal => Kn (t 0) (t 1) (t 5) (t 6) (t 7) (t 8) (t 9) (t 10) w | .exit _ => (False) | .ret => Kr (t 4) w
def F104_3 (Kn : Value -> Value -> Value -> Value -> Value -> Value -> Value -> Value -> World -> Prop) (Kr : Value -> World -> Prop) (x0 : Value) (x1 : Value) (x5 : Value) (x6 : Value) (x7 : Value) (x8 : Value) (x9 : Value) (x10 : Value) (w : World) : Prop :=
 rdS x0 fun s1 => rdS x1 fun s2 => rdI .i64 x5 fun n3 => rdI .u8 x6 fun n4 => rdI .u8 x7 fun n5 => rdI .i64 x8 fun n6 => rdI .i64 x9 fun n7 => rdI .i64 x10 fun n8 => ldI .i64 (Addr.mk 1 0 none) w fun n9 => br (decide ((n3 : Int) <= n9)) (Calls Tryz.prog 117 #[(.int .i64 (IntKind.wrap .i64 (n6 + 1)))] w (en fun e11 w10 => ∃ n12,e11 = .returned (.int .i64 n12) /\ (F104_2 (fun y0_12 y1_12 y5_12 y6_12 y7_12 y8_12 y9_12 y10_12 w14 => ∀ _g15 : Tm,rdS y0_12 fun s16 => rdS y1_12 fun s17 => rdI .i64 y5_12 fun n18 => rdI .u8 y6_12 fun n19 => rdI .u8 y7_12 fun n20 => rdI .i64 y8_12 fun n21 => rdI .i64 y9_12 fun n22 => rdI .i64 y10_12 fun n23 => Kn (.string s16) (.string s17) (.int .i64 n18) (.int .u8 n19) (.int .u8 n20) (.int .i64 n21) (.int .i64 n22) (.int .i64 n23) w14) (fun y4_23 w25 => ∀ _g26 : Tm,rdI .i64 y4_23 fun n27 => Kr (.int .i64 n27) w25) (.string s1) (.string s2) (.int .i64 n3) (.int .u8 n4) (.int .u8 n5) (.int .i64 (IntKind.wrap .i64 (n6 + 1))) (.int .i64 n7) (.int .i64 (IntKind.wrap .i64 (n8 + 1))) (.bool (decide (((IntKind.wrap .i64 (n8 + 1)) : Int) > n12))) w10))) (F104_2 (fun y0_27 y1_27 y5_27 y6_27 y7_27 y8_27 y9_27 y10_27 w29 => ∀ _g30 : Tm,rdS y0_27 fun s31 => rdS y1_27 fun s32 => rdI .i64 y5_27 fun n33 => rdI .u8 y6_27 fun n34 => rdI .u8 y7_27 fun n35 => rdI .i64 y8_27 fun n36 => rdI .i64 y9_27 fun n37 => rdI .i64 y10_27 fun n38 => Kn (.string s31) (.string s32) (.int .i64 n33) (.int .u8 n34) (.int .u8 n35) (.int .i64 n36) (.int .i64 n37) (.int .i64 n38) w29) (fun y4_38 w40 => ∀ _g41 : Tm,rdI .i64 y4_38 fun n42 => Kr (.int .i64 n42) w40) (.string s1) (.string s2) (.int .i64 n3) (.int .u8 n4) (.int .u8 n5) (.int .i64 (IntKind.wrap .i64 (n6 + 1))) (.int .i64 n7) (.int .i64 (IntKind.wrap .i64 (n8 + 1))) (.bool false) w)
def F104_3O (Q : Post) (t : Tm) (w : World) : Prop := F104_3 (fun y0 y1 y5 y6 y7 y8 y9 y10 w => ∀ g,rsh [(0,(.one .str)),(1,(.one .str)),(5,(.one (.int .i64))),(6,(.one (.int .u8))),(7,(.one (.int .u8))),(8,(.one (.int .i64))),(9,(.one (.int .i64))),(10,(.one (.int .i64)))] (upds g [(0,y0),(1,y1),(5,y5),(6,y6),(7,y7),(8,y8),(9,y9),(10,y10)]) fun t => Q .normal t w) (fun y4 w => ∀ g,rsh [(4,(.one (.int .i64)))] (upds g [(4,y4)]) fun t => Q .ret t w) (t 0) (t 1) (t 5) (t 6) (t 7) (t 8) (t 9) (t 10) w
theorem F104_3_step (Kn : Value -> Value -> Value -> Value -> Value -> Value -> Value -> Value -> World -> Prop) (Kr : Value -> World -> Prop) (t : Tm) (w : World) : (F104_3 Kn Kr (t 0) (t 1) (t 5) (t 6) (t 7) (t 8) (t 9) (t 10) w) = rsh [(0,(.one .str)),(1,(.one .str)),(5,(.one (.int .i64))),(6,(.one (.int .u8))),(7,(.one (.int .u8))),(8,(.one (.int .i64))),(9,(.one (.int .i64))),(10,(.one (.int .i64)))] t (fun t => vc Tryz.prog (orcOf [([1,1,1,1,1,1,1,0,1,0,0,0,1,1,1,1,1,1,1,1],F104_1O),([1,1,1,1,1,0,1,0,0,0,1,1,1,1,1,1,1,1],F104_2O)]) [1,1,0,1,0,0,0,1,1,1,1,1,1,1,1] (getAt F104_code [1,1,0,1,0,0,0,1,1,1,1,1,1,1,1]) (F104_3C Kn Kr) t w) := by kernel_rfl
theorem F104_3_ok : ∀ Q t w,F104_3O Q t w -> W Tryz.prog Tryz.f104.ntmps (getAt F104_code [1,1,0,1,0,0,0,1,1,1,1,1,1,1,1]) Q t w := by
 intro Q t w h
 unfold F104_3O at h
 rw [F104_3_step] at h
 refine (vc_sound mixed (orcCons (π := [1,1,1,1,1,1,1,0,1,0,0,0,1,1,1,1,1,1,1,1]) F104_1_ok (orcCons (π := [1,1,1,1,1,0,1,0,0,0,1,1,1,1,1,1,1,1]) F104_2_ok (orcNil F104_code))) _ _ rfl (okC_at F104_code_ok [1,1,0,1,0,0,0,1,1,1,1,1,1,1,1]) _ _ _ (rsh_out h)).mono ?_
 intro o t w q
 cases o with
 | normal => exact out_ok [0,1,5,6,7,8,9,10] q
 | exit i => exact q.elim
 | ret => exact out_ok [4] q
def F104_4C (Kn : Value -> Value -> Value -> Value -> Value -> Value -> Value -> Value -> World -> Prop) (Kr : Value -> World -> Prop) : Post := fun o t w => match o with | .normal => Kn (t 0) (t 1) (t 5) (t 6) (t 7) (t 8) (t 9) (t 10) w | .exit _ => (False) | .ret => Kr (t 4) w
def F104_4 (Kn : Value -> Value -> Value -> Value -> Value -> Value -> Value -> Value -> World -> Prop) (Kr : Value -> World -> Prop) (x0 : Value) (x1 : Value) (x5 : Value) (x6 : Value) (x7 : Value) (x8 : Value) (x9 : Value) (x10 : Value) (w : World) : Prop :=
 rdS x0 fun s1 => rdS x1 fun s2 => rdI .i64 x5 fun n3 => rdI .u8 x6 fun n4 => rdI .u8 x7 fun n5 => rdI .i64 x8 fun n6 => rdI .i64 x9 fun n7 => rdI .i64 x10 fun n8 => ixT s1 (IntKind.wrap .i64 (n6 + 1)) fun n9 => br (n9 == n5) (slT s1 (some (.int .i64 n6)) (some (.int .i64 (IntKind.wrap .i64 (n6 + n3)))) fun s10 => br (ByteArray.toList s10 == ByteArray.toList s2) (Kr (.int .i64 n6) w) (F104_3 (fun y0_10 y1_10 y5_10 y6_10 y7_10 y8_10 y9_10 y10_10 w12 => ∀ _g13 : Tm,rdS y0_10 fun s14 => rdS y1_10 fun s15 => rdI .i64 y5_10 fun n16 => rdI .u8 y6_10 fun n17 => rdI .u8 y7_10 fun n18 => rdI .i64 y8_10 fun n19 => rdI .i64 y9_10 fun n20 => rdI .i64 y10_10 fun n21 => Kn (.string s14) (.string s15) (.int .i64 n16) (.int .u8 n17) (.int .u8 n18) (.int .i64 n19) (.int .i64 n20) (.int .i64 n21) w12) (fun y4_21 w23 => ∀ _g24 : Tm,rdI .i64 y4_21 fun n25 => Kr (.int .i64 n25) w23) (.string s1) (.string s2) (.int .i64 n3) (.int .u8 n4) (.int .u8 n5) (.int .i64 n6) (.int .i64 n7) (.int .i64 n8) w)) (F104_3 (fun y0_25 y1_25 y5_25 y6_25 y7_25 y8_25 y9_25 y10_25 w27 => ∀ _g28 : Tm,rdS y0_25 fun s29 => rdS y1_25 fun s30 => rdI .i64 y5_25 fun n31 => rdI .u8 y6_25 fun n32 => rdI .u8 y7_25 fun n33 => rdI .i64 y8_25 fun n34 => rdI .i64 y9_25 fun n35 => rdI .i64 y10_25 fun n36 => Kn (.string s29) (.string s30) (.int .i64 n31) (.int .u8 n32) (.int .u8 n33) (.int .i64 n34) (.int .i64 n35) (.int .i64 n36) w27) (fun y4_36 w38 => ∀ _g39 : Tm,rdI .i64 y4_36 fun n40 => Kr (.int .i64 n40) w38) (.string s1) (.string s2) (.int .i64 n3) (.int .u8 n4) (.int .u8 n5) (.int .i64 n6) (.int .i64 n7) (.int .i64 n8) w)
def F104_4O (Q : Post) (t : Tm) (w : World) : Prop := F104_4 (fun y0 y1 y5 y6 y7 y8 y9 y10 w => ∀ g,rsh [(0,(.one .str)),(1,(.one .str)),(5,(.one (.int .i64))),(6,(.one (.int .u8))),(7,(.one (.int .u8))),(8,(.one (.int .i64))),(9,(.one (.int .i64))),(10,(.one (.int .i64)))] (upds g [(0,y0),(1,y1),(5,y5),(6,y6),(7,y7),(8,y8),(9,y9),(10,y10)]) fun t => Q .normal t w) (fun y4 w => ∀ g,rsh [(4,(.one (.int .i64)))] (upds g [(4,y4)]) fun t => Q .ret t w) (t 0) (t 1) (t 5) (t 6) (t 7) (t 8) (t 9) (t 10) w
theorem F104_4_step (Kn : Value -> Value -> Value -> Value -> Value -> Value -> Value -> Value -> World -> Prop) (Kr : Value -> World -> Prop) (t : Tm) (w : World) : (F104_4 Kn Kr (t 0) (t 1) (t 5) (t 6) (t 7) (t 8) (t 9) (t 10) w) = rsh [(0,(.one .str)),(1,(.one .str)),(5,(.one (.int .i64))),(6,(.one (.int .u8))),(7,(.one (.int .u8))),(8,(.one (.int .i64))),(9,(.one (.int .i64))),(10,(.one (.int .i64)))] t (fun t => vc Tryz.prog (orcOf [([1,1,1,1,1,1,1,0,1,0,0,0,1,1,1,1,1,1,1,1],F104_1O),([1,1,1,1,1,0,1,0,0,0,1,1,1,1,1,1,1,1],F104_2O),([1,1,0,1,0,0,0,1,1,1,1,1,1,1,1],F104_3O)]) [1,0,1,0,0,0,1,1,1,1,1,1,1,1] (getAt F104_code [1,0,1,0,0,0,1,1,1,1,1,1,1,1]) (F104_4C Kn Kr) t w) := by kernel_rfl
theorem F104_4_ok : ∀ Q t w,F104_4O Q t w -> W Tryz.prog Tryz.f104.ntmps (getAt F104_code [1,0,1,0,0,0,1,1,1,1,1,1,1,1]) Q t w := by
 intro Q t w h
 unfold F104_4O at h
 rw [F104_4_step] at h
 refine (vc_sound mixed (orcCons (π := [1,1,1,1,1,1,1,0,1,0,0,0,1,1,1,1,1,1,1,1]) F104_1_ok (orcCons (π := [1,1,1,1,1,0,1,0,0,0,1,1,1,1,1,1,1,1]) F104_2_ok (orcCons (π := [1,1,0,1,0,0,0,1,1,1,1,1,1,1,1]) F104_3_ok (orcNil F104_code)))) _ _ rfl (okC_at F104_code_ok [1,0,1,0,0,0,1,1,1,1,1,1,1,1]) _ _ _ (rsh_out h)).mono ?_
 intro o t w q
 cases o with
 | normal => exact out_ok [0,1,5,6,7,8,9,10] q
 | exit i => exact q.elim
 | ret => exact out_ok [4] q
def F104_5C (K1 : World -> Prop) (Kr : Value -> World -> Prop) : Post := fun o t w => match o with | .normal => False | .exit i => (match Nat.beq i 1 with | true => K1  w | false => False) | .ret => Kr (t 4) w
def F104_5B (R : Value -> Value -> Value -> Value -> Value -> Value -> Value -> Value -> World -> Prop) (K1 : World -> Prop) (Kr : Value -> World -> Prop) (x0 : Value) (x1 : Value) (x5 : Value) (x6 : Value) (x7 : Value) (x8 : Value) (x9 : Value) (x10 : Value) (w : World) : Prop :=
 rdS x0 fun s1 => rdS x1 fun s2 => rdI .i64 x5 fun n3 => rdI .u8 x6 fun n4 => rdI .u8 x7 fun n5 => rdI .i64 x8 fun n6 => rdI .i64 x9 fun n7 => rdI .i64 x10 fun n8 => br (decide ((n6 : Int) < n7)) (ixT s1 n6 fun n9 => br (n9 != n4) (slT s1 (some (.int .i64 (IntKind.wrap .i64 (n6 + 1)))) (some (.int .i64 n7)) fun s10 => Calls Tryz.prog 96 #[(.string s10),(.int .u8 n4)] w (en fun e12 w11 => ∃ n13,e12 = .returned (.int .i64 n13) /\ (br (decide ((n13 : Int) < 0)) (Kr (.int .i64 (-1)) w11) (F104_4 (fun y0_13 y1_13 y5_13 y6_13 y7_13 y8_13 y9_13 y10_13 w15 => ∀ _g16 : Tm,rdS y0_13 fun s17 => rdS y1_13 fun s18 => rdI .i64 y5_13 fun n19 => rdI .u8 y6_13 fun n20 => rdI .u8 y7_13 fun n21 => rdI .i64 y8_13 fun n22 => rdI .i64 y9_13 fun n23 => rdI .i64 y10_13 fun n24 => R (.string s17) (.string s18) (.int .i64 n19) (.int .u8 n20) (.int .u8 n21) (.int .i64 n22) (.int .i64 n23) (.int .i64 n24) w15) (fun y4_24 w26 => ∀ _g27 : Tm,rdI .i64 y4_24 fun n28 => Kr (.int .i64 n28) w26) (.string s1) (.string s2) (.int .i64 n3) (.int .u8 n4) (.int .u8 n5) (.int .i64 (IntKind.wrap .i64 (n6 + (IntKind.wrap .i64 (n13 + 1))))) (.int .i64 n7) (.int .i64 n8) w11)))) (F104_4 (fun y0_28 y1_28 y5_28 y6_28 y7_28 y8_28 y9_28 y10_28 w30 => ∀ _g31 : Tm,rdS y0_28 fun s32 => rdS y1_28 fun s33 => rdI .i64 y5_28 fun n34 => rdI .u8 y6_28 fun n35 => rdI .u8 y7_28 fun n36 => rdI .i64 y8_28 fun n37 => rdI .i64 y9_28 fun n38 => rdI .i64 y10_28 fun n39 => R (.string s32) (.string s33) (.int .i64 n34) (.int .u8 n35) (.int .u8 n36) (.int .i64 n37) (.int .i64 n38) (.int .i64 n39) w30) (fun y4_39 w41 => ∀ _g42 : Tm,rdI .i64 y4_39 fun n43 => Kr (.int .i64 n43) w41) (.string s1) (.string s2) (.int .i64 n3) (.int .u8 n4) (.int .u8 n5) (.int .i64 n6) (.int .i64 n7) (.int .i64 n8) w)) (K1 w)
def F104_5 (K1 : World -> Prop) (Kr : Value -> World -> Prop) : Nat -> Value -> Value -> Value -> Value -> Value -> Value -> Value -> Value -> World -> Prop
 | 0 => fun _ _ _ _ _ _ _ _ _ => False
 | n + 1 => F104_5B (F104_5 K1 Kr n) K1 Kr
def F104_5O (Q : Post) (t : Tm) (w : World) : Prop := ∃ n,F104_5 (fun w => ∀ g,rsh [] (upds g []) fun t => Q (.exit 1) t w) (fun y4 w => ∀ g,rsh [(4,(.one (.int .i64)))] (upds g [(4,y4)]) fun t => Q .ret t w) n (t 0) (t 1) (t 5) (t 6) (t 7) (t 8) (t 9) (t 10) w
theorem F104_5_step (K1 : World -> Prop) (Kr : Value -> World -> Prop) (n : Nat) (t : Tm) (w : World) : (F104_5 K1 Kr (n + 1) (t 0) (t 1) (t 5) (t 6) (t 7) (t 8) (t 9) (t 10) w) = rsh [(0,(.one .str)),(1,(.one .str)),(5,(.one (.int .i64))),(6,(.one (.int .u8))),(7,(.one (.int .u8))),(8,(.one (.int .i64))),(9,(.one (.int .i64))),(10,(.one (.int .i64)))] t (fun t => vc Tryz.prog (orcOf [([1,1,1,1,1,1,1,0,1,0,0,0,1,1,1,1,1,1,1,1],F104_1O),([1,1,1,1,1,0,1,0,0,0,1,1,1,1,1,1,1,1],F104_2O),([1,1,0,1,0,0,0,1,1,1,1,1,1,1,1],F104_3O),([1,0,1,0,0,0,1,1,1,1,1,1,1,1],F104_4O)]) [0,0,0,1,1,1,1,1,1,1,1] (getAt F104_code [0,0,0,1,1,1,1,1,1,1,1]) (fun o t w => match o with | .normal => F104_5 K1 Kr n (t 0) (t 1) (t 5) (t 6) (t 7) (t 8) (t 9) (t 10) w | .exit i => F104_5C K1 Kr (.exit i) t w | .ret => F104_5C K1 Kr .ret t w) t w) := by kernel_rfl
theorem F104_5_ok : ∀ Q t w,F104_5O Q t w -> W Tryz.prog Tryz.f104.ntmps (getAt F104_code [0,0,1,1,1,1,1,1,1,1]) Q t w := by
 intro Q t w ⟨n,h⟩
 refine (W_loop (P := Tryz.prog) (b := getAt F104_code [0,0,0,1,1,1,1,1,1,1,1]) (Q := F104_5C (fun w => ∀ g,rsh [] (upds g []) fun t => Q (.exit 1) t w) (fun y4 w => ∀ g,rsh [(4,(.one (.int .i64)))] (upds g [(4,y4)]) fun t => Q .ret t w)) (G := fun n t w => F104_5 (fun w => ∀ g,rsh [] (upds g []) fun t => Q (.exit 1) t w) (fun y4 w => ∀ g,rsh [(4,(.one (.int .i64)))] (upds g [(4,y4)]) fun t => Q .ret t w) n (t 0) (t 1) (t 5) (t 6) (t 7) (t 8) (t 9) (t 10) w) (fun _ _ h => h) (fun n t w h => ?_) n t w h).mono ?_
 ·rw [F104_5_step] at h
  exact vc_sound mixed (orcCons (π := [1,1,1,1,1,1,1,0,1,0,0,0,1,1,1,1,1,1,1,1]) F104_1_ok (orcCons (π := [1,1,1,1,1,0,1,0,0,0,1,1,1,1,1,1,1,1]) F104_2_ok (orcCons (π := [1,1,0,1,0,0,0,1,1,1,1,1,1,1,1]) F104_3_ok (orcCons (π := [1,0,1,0,0,0,1,1,1,1,1,1,1,1]) F104_4_ok (orcNil F104_code))))) _ _ rfl (okC_at F104_code_ok [0,0,0,1,1,1,1,1,1,1,1]) _ _ _ (rsh_out h)
 ·intro o t w q
  cases o with
  | normal => exact q.elim
  | exit i =>
   unfold F104_5C at q
   simp only at q
   split at q
   ·rename_i hi
    rw [nbeq] at hi
    subst hi
    exact out_ok [] q
   ·exact q.elim
  | ret => exact out_ok [4] q
def F104_6C (Kn : Value -> Value -> Value -> World -> Prop) (Kr : Value -> World -> Prop) : Post := fun o t w => match o with | .normal => Kn (t 0) (t 1) (t 5) w | .exit _ => (False) | .ret => Kr (t 4) w
def F104_6 (Kn : Value -> Value -> Value -> World -> Prop) (Kr : Value -> World -> Prop) (x0 : Value) (x1 : Value) (x5 : Value) (x16 : Value) (w : World) : Prop :=
 rdS x0 fun s1 => rdS x1 fun s2 => rdI .i64 x5 fun n3 => rdB x16 fun b4 => br b4 (Kr (.int .i64 0) w) (br (n3 == 1) (ixT s2 0 fun n5 => Calls Tryz.prog 96 #[(.string s1),(.int .u8 n5)] w (en fun e7 w6 => ∃ n8,e7 = .returned (.int .i64 n8) /\ (Kr (.int .i64 n8) w6))) (br (decide ((n3 : Int) >= (ByteArray.size s1 : Int))) (Kr (.int .i64 (-1)) w) (ldI .i64 (Addr.mk 1 0 none) w fun n9 => br (decide ((n3 : Int) <= n9)) (br (decide (((ByteArray.size s1 : Int) : Int) <= 64)) (∃ n11,∃ w10,Sem.run Tryz.prog (callFunc 116 #[(.string s1),(.string s2)]) w = .ok (.value (.int .i64 n11)) w10 /\ (Kr (.int .i64 n11) w10)) (Kn (.string s1) (.string s2) (.int .i64 n3) w)) (Kn (.string s1) (.string s2) (.int .i64 n3) w))))
def F104_6O (Q : Post) (t : Tm) (w : World) : Prop := F104_6 (fun y0 y1 y5 w => ∀ g,rsh [(0,(.one .str)),(1,(.one .str)),(5,(.one (.int .i64)))] (upds g [(0,y0),(1,y1),(5,y5)]) fun t => Q .normal t w) (fun y4 w => ∀ g,rsh [(4,(.one (.int .i64)))] (upds g [(4,y4)]) fun t => Q .ret t w) (t 0) (t 1) (t 5) (t 16) w
theorem F104_6_step (Kn : Value -> Value -> Value -> World -> Prop) (Kr : Value -> World -> Prop) (t : Tm) (w : World) : (F104_6 Kn Kr (t 0) (t 1) (t 5) (t 16) w) = rsh [(0,(.one .str)),(1,(.one .str)),(5,(.one (.int .i64))),(16,(.one .bool))] t (fun t => vc Tryz.prog (orcOf []) [1,0,0,1,1] (getAt F104_code [1,0,0,1,1]) (F104_6C Kn Kr) t w) := by kernel_rfl
theorem F104_6_ok : ∀ Q t w,F104_6O Q t w -> W Tryz.prog Tryz.f104.ntmps (getAt F104_code [1,0,0,1,1]) Q t w := by
 intro Q t w h
 unfold F104_6O at h
 rw [F104_6_step] at h
 refine (vc_sound mixed (orcNil F104_code) _ _ rfl (okC_at F104_code_ok [1,0,0,1,1]) _ _ _ (rsh_out h)).mono ?_
 intro o t w q
 cases o with
 | normal => exact out_ok [0,1,5] q
 | exit i => exact q.elim
 | ret => exact out_ok [4] q
def F104_7C (Kr : Value -> World -> Prop) : Post := fun o t w => match o with | .normal => False | .exit _ => (False) | .ret => Kr (t 4) w
def F104_7 (Kr : Value -> World -> Prop) (x0 : Value) (x1 : Value) (x5 : Value) (w : World) : Prop :=
 rdS x0 fun s1 => rdS x1 fun s2 => rdI .i64 x5 fun n3 => ixT s2 0 fun n4 => ixT s2 1 fun n5 => ∃ k13 : Nat,F104_5 (fun w7 => ∀ _g8 : Tm,Kr (.int .i64 (-1)) w7) (fun y4_8 w10 => ∀ _g11 : Tm,rdI .i64 y4_8 fun n12 => Kr (.int .i64 n12) w10) k13 (.string s1) (.string s2) (.int .i64 n3) (.int .u8 n4) (.int .u8 n5) (.int .i64 0) (.int .i64 (IntKind.wrap .i64 ((IntKind.wrap .i64 ((ByteArray.size s1 : Int) - n3)) + 1))) (.int .i64 0) w
def F104_7O (Q : Post) (t : Tm) (w : World) : Prop := F104_7 (fun y4 w => ∀ g,rsh [(4,(.one (.int .i64)))] (upds g [(4,y4)]) fun t => Q .ret t w) (t 0) (t 1) (t 5) w
theorem F104_7_step (Kr : Value -> World -> Prop) (t : Tm) (w : World) : (F104_7 Kr (t 0) (t 1) (t 5) w) = rsh [(0,(.one .str)),(1,(.one .str)),(5,(.one (.int .i64)))] t (fun t => vc Tryz.prog (orcOf [([1,1,1,1,1,1,1,0,1,0,0,0,1,1,1,1,1,1,1,1],F104_1O),([1,1,1,1,1,0,1,0,0,0,1,1,1,1,1,1,1,1],F104_2O),([1,1,0,1,0,0,0,1,1,1,1,1,1,1,1],F104_3O),([1,0,1,0,0,0,1,1,1,1,1,1,1,1],F104_4O),([0,0,1,1,1,1,1,1,1,1],F104_5O)]) [1,1,1] (getAt F104_code [1,1,1]) (F104_7C Kr) t w) := by kernel_rfl
theorem F104_7_ok : ∀ Q t w,F104_7O Q t w -> W Tryz.prog Tryz.f104.ntmps (getAt F104_code [1,1,1]) Q t w := by
 intro Q t w h
 unfold F104_7O at h
 rw [F104_7_step] at h
 refine (vc_sound mixed (orcCons (π := [1,1,1,1,1,1,1,0,1,0,0,0,1,1,1,1,1,1,1,1]) F104_1_ok (orcCons (π := [1,1,1,1,1,0,1,0,0,0,1,1,1,1,1,1,1,1]) F104_2_ok (orcCons (π := [1,1,0,1,0,0,0,1,1,1,1,1,1,1,1]) F104_3_ok (orcCons (π := [1,0,1,0,0,0,1,1,1,1,1,1,1,1]) F104_4_ok (orcCons (π := [0,0,1,1,1,1,1,1,1,1]) F104_5_ok (orcNil F104_code)))))) _ _ rfl (okC_at F104_code_ok [1,1,1]) _ _ _ (rsh_out h)).mono ?_
 intro o t w q
 cases o with
 | normal => exact q.elim
 | exit i => exact q.elim
 | ret => exact out_ok [4] q
def F104 (x0 : Value) (x1 : Value) (w : World) (K : Value -> World -> Prop) : Prop :=
 rdS x0 fun s1 => rdS x1 fun s2 => br ((ByteArray.size s2 : Int) == 0) (F104_6 (fun y0_2 y1_2 y5_2 w4 => ∀ _g5 : Tm,rdS y0_2 fun s6 => rdS y1_2 fun s7 => rdI .i64 y5_2 fun n8 => F104_7 (fun y4_8 w10 => ∀ _g11 : Tm,rdI .i64 y4_8 fun n12 => K (.int .i64 n12) w10) (.string s6) (.string s7) (.int .i64 n8) w4) (fun y4_12 w14 => ∀ _g15 : Tm,rdI .i64 y4_12 fun n16 => K (.int .i64 n16) w14) (.string s1) (.string s2) (.int .i64 (ByteArray.size s2 : Int)) (.bool true) w) (F104_6 (fun y0_16 y1_16 y5_16 w18 => ∀ _g19 : Tm,rdS y0_16 fun s20 => rdS y1_16 fun s21 => rdI .i64 y5_16 fun n22 => F104_7 (fun y4_22 w24 => ∀ _g25 : Tm,rdI .i64 y4_22 fun n26 => K (.int .i64 n26) w24) (.string s20) (.string s21) (.int .i64 n22) w18) (fun y4_26 w28 => ∀ _g29 : Tm,rdI .i64 y4_26 fun n30 => K (.int .i64 n30) w28) (.string s1) (.string s2) (.int .i64 (ByteArray.size s2 : Int)) (.bool (ByteArray.toList s2 == ByteArray.toList s1)) w)
theorem F104_step (x0 : Value) (x1 : Value) (w : World) (K : Value -> World -> Prop) : (F104 x0 x1 w K) = rsh [(0,(.one .str)),(1,(.one .str))] (args0 #[x0,x1]) (fun t => vc Tryz.prog (orcOf [([1,1,1,1,1,1,1,0,1,0,0,0,1,1,1,1,1,1,1,1],F104_1O),([1,1,1,1,1,0,1,0,0,0,1,1,1,1,1,1,1,1],F104_2O),([1,1,0,1,0,0,0,1,1,1,1,1,1,1,1],F104_3O),([1,0,1,0,0,0,1,1,1,1,1,1,1,1],F104_4O),([0,0,1,1,1,1,1,1,1,1],F104_5O),([1,0,0,1,1],F104_6O),([1,1,1],F104_7O)]) [] F104_code (retQ Tryz.prog Tryz.f104 K) t w) := by kernel_rfl
theorem F104_ok {x0 x1 : Value} {w : World} {K : Value -> World -> Prop} (h : F104 x0 x1 w K) : Calls Tryz.prog 104 #[x0,x1] w (rt K) := by
 rw [F104_step] at h
 exact Calls.mono (calls_of (c := F104_code) mixed Tryz.func104 rfl (nlt rfl) (vc_sound mixed (orcCons (π := [1,1,1,1,1,1,1,0,1,0,0,0,1,1,1,1,1,1,1,1]) F104_1_ok (orcCons (π := [1,1,1,1,1,0,1,0,0,0,1,1,1,1,1,1,1,1]) F104_2_ok (orcCons (π := [1,1,0,1,0,0,0,1,1,1,1,1,1,1,1]) F104_3_ok (orcCons (π := [1,0,1,0,0,0,1,1,1,1,1,1,1,1]) F104_4_ok (orcCons (π := [0,0,1,1,1,1,1,1,1,1]) F104_5_ok (orcCons (π := [1,0,0,1,1]) F104_6_ok (orcCons (π := [1,1,1]) F104_7_ok (orcNil F104_code)))))))) F104_code [] rfl F104_code_ok _ _ _ (rsh_out h))) fun _ _ => rv_none
end Go.Proofs.YtilenpnpnbdndaaGreatDoor
namespace Go.Proofs.YtilenpnpnbdndaaGreatDoor
open Go Go.Sh
set_option maxRecDepth 100000
attribute [local instance] Esc.none
section
variable {w : World} {s : ByteArray} {c : Int}
theorem ru112 (v : Array Value) (w : World) : Sem.run Tryz.prog (callFunc 112 v) w = Sem.run Tryz.prog (do pure (Next.value (← Extern.BytealgIndexByte.indexByte v))) w := by kernel_rfl
theorem ru103 (v : Array Value) (w : World) : Sem.run Tryz.prog (callFunc 103 v) w = Sem.run Tryz.prog (do pure (Next.value (← Extern.BytealgCount.count v))) w := by kernel_rfl
theorem run112 : Sem.run Tryz.prog (callFunc 112 #[.string s,.int .u8 c]) w = .ok (.value (.int .i64 (Lib.indexByte s.data.toList c.toNat.toUInt8))) w := by
 rw [ru112,Sem.run_bind,Lib.run_indexByteString]
 rfl
theorem run103 : Sem.run Tryz.prog (callFunc 103 #[.string s,.int .u8 c]) w = .ok (.value (.int .i64 (Lib.countByte s.data.toList c.toNat.toUInt8))) w := by
 rw [ru103,Sem.run_bind,Lib.run_countString]
 rfl
theorem c96 : Calls Tryz.prog 96 #[.string s,.int .u8 c] w (rt (KR (.int .i64 (Lib.indexByte s.data.toList c.toNat.toUInt8)) w)) := by
 refine F96_ok ?_
 unfold F96
 simp only [rdS_mk,rdI_mk]
 exact ⟨_,_,run112,KR.mk _ _⟩
theorem c67 : Calls Tryz.prog 67 #[.string s,.int .u8 c] w (rt (KR (.int .i64 (Lib.indexByte s.data.toList c.toNat.toUInt8)) w)) := by
 refine F67_ok ?_
 unfold F67
 simp only [rdS_mk,rdI_mk]
 exact clr c96 ⟨_,rfl,KR.mk _ _⟩
theorem ixT_one {b : UInt8} {K : Int -> Prop} (hk : K (b.toNat : Int)) : ixT ⟨#[b]⟩ 0 K := ⟨b,⟨by omega,rfl⟩,hk⟩
theorem u8_back (b : UInt8) : ((b.toNat : Int).toNat.toUInt8) = b := by simp
theorem c104 {b : UInt8} : Calls Tryz.prog 104 #[.string s,.string ⟨#[b]⟩] w (rt (KR (.int .i64 (Lib.indexByte s.data.toList b)) w)) := by
 refine F104_ok ?_
 unfold F104
 simp only [rdS_mk]
 have e0 : (((ByteArray.mk #[b]).size : Int) == 0) = false := rfl
 rw [e0,br_false]
 unfold F104_6
 simp only [rdS_mk,rdI_mk,rdB_mk]
 have e2 : (((ByteArray.mk #[b]).size : Int) == 1) = true := rfl
 rw [str_beq,br_dec]
 refine ⟨fun he => ?_,fun _ => ?_⟩
 ·subst he
  intro _
  have : Lib.indexByte (ByteArray.mk #[b]).data.toList b = 0 := by simp [Lib.indexByte]
  rw [this]
  exact KR.mk _ _
 ·rw [e2,br_true]
  refine ixT_one (clr c96 ⟨_,rfl,?_⟩)
  rw [u8_back]
  intro _
  exact KR.mk _ _
theorem c88 {b : UInt8} : Calls Tryz.prog 88 #[.string s,.string ⟨#[b]⟩] w (rt (KR (.int .i64 (Lib.indexByte s.data.toList b)) w)) := by
 refine F88_ok ?_
 unfold F88
 simp only [rdS_mk]
 exact clr c104 ⟨_,rfl,KR.mk _ _⟩
theorem c87 {b : UInt8} : Calls Tryz.prog 87 #[.string s,.string ⟨#[b]⟩] w (rt (KR (.int .i64 (s.data.toList.count b)) w)) := by
 refine F87_ok ?_
 unfold F87
 simp only [rdS_mk]
 have e0 : (((ByteArray.mk #[b]).size : Int) == 0) = false := rfl
 have e2 : (((ByteArray.mk #[b]).size : Int) == 1) = true := rfl
 rw [e0,br_false,e2,br_true]
 refine ixT_one ⟨_,_,run103,?_⟩
 rw [u8_back]
 exact KR.mk _ _
end
end Go.Proofs.YtilenpnpnbdndaaGreatDoor
namespace Go.Proofs.YtilenpnpnbdndaaGreatDoor
open Go Go.Sh
def wrds : List UInt8 -> List (List UInt8)
 | [] => [[]]
 | x :: r => if x = 32 then [] :: wrds r else match wrds r with | w :: ws => (x :: w) :: ws | [] => [[x]]
theorem wrds_ne : ∀ l,wrds l ≠ []
 | [] => by simp [wrds]
 | x :: r => by
  unfold wrds
  split
  ·simp
  ·split <;> simp
theorem wrds_length : ∀ l,(wrds l).length = l.count 32 + 1
 | [] => rfl
 | x :: r => by
  unfold wrds
  have ih := wrds_length r
  split
  ·rename_i h
   subst h
   rw [List.length_cons,ih,List.count_cons_self]
  ·rename_i h
   rw [List.count_cons_of_ne (by exact h)]
   split
   ·rename_i w ws e
    rw [e] at ih
    simpa using ih
   ·rename_i e
    exact absurd e (wrds_ne r)
theorem wrds_none : ∀ {l : List UInt8},32 ∉ l -> wrds l = [l]
 | [],_ => rfl
 | x :: r,h => by
  have hx : x ≠ 32 := fun e => h (by simp [e])
  have ih := wrds_none (l := r) fun hr => h (by simp [hr])
  unfold wrds
  rw [if_neg hx,ih]
theorem wrds_split : ∀ (a b : List UInt8),32 ∉ a -> wrds (a ++ 32 :: b) = a :: wrds b
 | [],b,_ => by simp [wrds]
 | x :: r,b,h => by
  have hx : x ≠ 32 := fun e => h (by simp [e])
  have ih := wrds_split r b fun hr => h (by simp [hr])
  rw [List.cons_append]
  conv => lhs; unfold wrds
  rw [if_neg hx,ih]
theorem ix_none {l : List UInt8} {c : UInt8} (h : Lib.indexByte l c < 0) : c ∉ l := by
 induction l with
 | nil => simp
 | cons x r ih =>
  unfold Lib.indexByte at h
  split at h
  ·omega
  ·rename_i hx
   have hx : x ≠ c := by simpa using hx
   split at h
   ·rename_i hr
    have hr : Lib.indexByte r c = -1 := by simpa using hr
    have := ih (by omega)
    simp [Ne.symm hx,this]
   ·have := Lib.indexByte_ge r c
    omega
theorem ix_some {c : UInt8} : ∀ {l : List UInt8},0 <= Lib.indexByte l c -> ∃ m : Nat,Lib.indexByte l c = (m : Int) /\ m < l.length /\ c ∉ l.take m /\ l = l.take m ++ c :: l.drop (m + 1)
 | [],h => by simp [Lib.indexByte] at h
 | x :: r,h => by
  unfold Lib.indexByte at h ⊢
  split
  ·rename_i hx
   have hx : x = c := by simpa using hx
   subst hx
   exact ⟨0,rfl,by simp,by simp,by simp⟩
  ·rename_i hx
   have hx : x ≠ c := by simpa using hx
   rw [if_neg (by simpa using hx)] at h
   split at h
   ·omega
   ·rename_i hr
    have hr : Lib.indexByte r c ≠ -1 := by simpa using hr
    have h0 := Lib.indexByte_ge r c
    obtain ⟨m,h1,h2,h3,h4⟩ := ix_some (c := c) (l := r) (by omega)
    rw [if_neg (by simpa using hr)]
    refine ⟨m + 1,by omega,by simp; omega,?_,?_⟩
    ·rw [List.take_succ_cons,List.mem_cons]
     rintro (e | e)
     ·exact hx e.symm
     ·exact h3 e
    ·simp only [List.take_succ_cons,List.drop_succ_cons,List.cons_append]
     rw [← h4]
end Go.Proofs.YtilenpnpnbdndaaGreatDoor
