/- Own text: part of the shallow reading of the code and of the contracts that are proved over it. -/
import Derived.Test.YtilenpnpnbdndaaGreatDoorShDf
import Derived.KernelRfl
namespace Go.Proofs.YtilenpnpnbdndaaGreatDoor
open Go Go.Sh
set_option maxRecDepth 100000
set_option maxHeartbeats 4000000
noncomputable def F14_code : Code := Tryz.f14.body.getD .skip
section
attribute [local instance] Esc.none
def F14_0C (Kn : Value -> Value -> Value -> World -> Prop) : Post := fun o t w => match o with | .normal => Kn (t 1) (t 2) (t 3) w | .exit _ => False | .ret => False
def F14_0 (Kn : Value -> Value -> Value -> World -> Prop) (x0 : Value) (w : World) : Prop :=
 exR49 fun s1 => x0 = s1.v /\ (alc (.cells s1.c 50) w fun b2 w3 => alc (.cells #[(.int .i64 0)] 28) w3 fun b4 w5 => Kn (.pointer (some (Addr.mk b2 0 none))) (.string ⟨#[]⟩) (.pointer (some (Addr.mk b4 0 none))) w5)
def F14_0O (Q : Post) (t : Tm) (w : World) : Prop := F14_0 (fun y1 y2 y3 w => ∀ g,rsh [(1,(.one .adr)),(2,(.one .str)),(3,(.one .adr))] (upds g [(1,y1),(2,y2),(3,y3)]) fun t => Q .normal t w) (t 0) w
theorem F14_0_step (Kn : Value -> Value -> Value -> World -> Prop) (t : Tm) (w : World) : (F14_0 Kn (t 0) w) = rsh [(0,(.agg [(.int .u8),(.int .u8),(.int .u8),(.int .u8),(.int .u8),(.int .u8),(.int .u8),(.int .u8),(.int .u8),(.int .u8),(.int .u8),(.int .u8),(.int .u8),(.int .u8),(.int .u8),(.int .u8),(.int .u64),(.int .i64),(.int .u32),(.int .u16),(.int .u16),(.int .i64),(.int .i64),(.int .u16),(.int .u16),(.int .i64),(.int .i64),(.int .i64),(.int .i64),(.int .i64),(.int .i64),(.int .i64),(.int .i64),(.int .i64),(.int .i64),(.int .i64),(.int .i64),(.int .i64),.bool,.bool,.bool]))] t (fun t => vc Tryz.prog (orcOf []) [0] (getAt F14_code [0]) (F14_0C Kn) t w) := by kernel_rfl
theorem F14_0_oc : okC Tryz.prog Tryz.f14.ntmps (getAt F14_code [0]) = true := by kernel_rfl
theorem F14_0_ok0 : ∀ Q t w,F14_0O Q t w -> W Tryz.prog Tryz.f14.ntmps (getAt F14_code [0]) Q t w := by
 intro Q t w h
 unfold F14_0O at h
 rw [F14_0_step] at h
 refine (vc_sound mixed (orcNil F14_code) _ _ rfl F14_0_oc _ _ _ (rsh_out h)).mono ?_
 intro o t w q
 cases o with
 | normal => exact out_ok [1,2,3] q
 | exit i => exact q.elim
 | ret => exact q.elim
end
section
attribute [local instance] Esc.none
def F14_1C (Kr : Value -> Value -> World -> Prop) : Post := fun o t w => match o with | .normal => False | .exit _ => False | .ret => Kr (t 2) (t 3) w
def F14_1 (Kr : Value -> Value -> World -> Prop) (x3 : Value) (x4 : Value) (w : World) : Prop :=
 rdA x3 fun a1 => rdP x4 fun p2 => Calls Tryz.prog 27 #[(.pointer p2)] w (en fun e4 w3 => ∃ s5,e4 = .returned (.string s5) /\ (stc a1 (.int .i64 0) w3 fun w6 => Kr (.string s5) (.pointer (some a1)) w6))
def F14_1O (Q : Post) (t : Tm) (w : World) : Prop := F14_1 (fun y2 y3 w => ∀ g,rsh [(2,(.one .str)),(3,(.one .adr))] (upds g [(2,y2),(3,y3)]) fun t => Q .ret t w) (t 3) (t 4) w
theorem F14_1_step (Kr : Value -> Value -> World -> Prop) (t : Tm) (w : World) : (F14_1 Kr (t 3) (t 4) w) = rsh [(3,(.one .adr)),(4,(.one .ptr))] t (fun t => vc Tryz.prog (orcOf []) [1,1,1,1] (getAt F14_code [1,1,1,1]) (F14_1C Kr) t w) := by kernel_rfl
theorem F14_1_oc : okC Tryz.prog Tryz.f14.ntmps (getAt F14_code [1,1,1,1]) = true := by kernel_rfl
theorem F14_1_ok0 : ∀ Q t w,F14_1O Q t w -> W Tryz.prog Tryz.f14.ntmps (getAt F14_code [1,1,1,1]) Q t w := by
 intro Q t w h
 unfold F14_1O at h
 rw [F14_1_step] at h
 refine (vc_sound mixed (orcNil F14_code) _ _ rfl F14_1_oc _ _ _ (rsh_out h)).mono ?_
 intro o t w q
 cases o with
 | normal => exact q.elim
 | exit i => exact q.elim
 | ret => exact out_ok [2,3] q
end
def F14_1L (Q : Post) (t : Tm) (w : World) : Prop := F14_1O (fun o t w => match o with | .ret => Q .ret t w | _ => False) t w
theorem F14_1_ok [Esc] {σ : Tm} : ∀ Q t w,F14_1L Q t w -> W Tryz.prog ⟨Tryz.f14.ntmps,[2,3],σ⟩ (getAt F14_code [1,1,1,1]) Q t w := fun _ _ _ h => W_lift (F14_1_ok0 _ _ _ h)
section
variable [Esc]
def F14_2C (Kr : Value -> Value -> World -> Prop) : Post := fun o t w => match o with | .normal => False | .exit _ => False | .ret => Kr (t 2) (t 3) w
def F14_2 (Kr : Value -> Value -> World -> Prop) (x1 : Value) (x3 : Value) (w : World) : Prop :=
 rdA x1 fun a1 => rdA x3 fun a2 => alc (.cells #[(.slice none 0 0),(.bool false)] 79) w fun b3 w4 => Calls Tryz.prog 39 #[(.pointer (some (Addr.mk b3 0 none))),(.pointer (some a1))] w4 (en fun e6 w5 => e6 = .returned (.tuple #[]) /\ (F14_1 (fun y2_6 y3_6 w8 => ∀ _g9 : Tm,rdS y2_6 fun s10 => rdA y3_6 fun a11 => Kr (.string s10) (.pointer (some a11)) w8) (.pointer (some a2)) (.pointer (some (Addr.mk b3 0 none))) w5))
def F14_2O (Q : Post) (t : Tm) (w : World) : Prop := F14_2 (fun y2 y3 w => ∀ g,rsh [(2,(.one .str)),(3,(.one .adr))] (upds g [(2,y2),(3,y3)]) fun t => Q .ret t w) (t 1) (t 3) w
theorem F14_2_step (Kr : Value -> Value -> World -> Prop) (t : Tm) (w : World) : (F14_2 Kr (t 1) (t 3) w) = rsh [(1,(.one .adr)),(3,(.one .adr))] t (fun t => vc Tryz.prog (orcOf [([1,1,1,1],F14_1L)]) [1,1] (getAt F14_code [1,1]) (F14_2C Kr) t w) := by kernel_rfl
omit [Esc] in
theorem F14_2_oc {σ : Tm} : okP Tryz.prog ⟨Tryz.f14.ntmps,[2,3],σ⟩ [[1,1,1,1]] [1,1] (getAt F14_code [1,1]) = true := by kernel_rfl
theorem F14_2_ok {σ : Tm} : ∀ Q t w,F14_2O Q t w -> W Tryz.prog ⟨Tryz.f14.ntmps,[2,3],σ⟩ (getAt F14_code [1,1]) Q t w := by
 intro Q t w h
 unfold F14_2O at h
 rw [F14_2_step] at h
 refine (vc_soundO mixed (orcCons (π := [1,1,1,1]) F14_1_ok (orcNil F14_code)) (hps_cons hps_nil) _ _ rfl F14_2_oc _ _ _ (rsh_out h)).mono ?_
 intro o t w q
 cases o with
 | normal => exact q.elim
 | exit i => exact q.elim
 | ret => exact out_ok [2,3] q
end
noncomputable def F16_code : Code := Tryz.f16.body.getD .skip
section
attribute [local instance] Esc.none
def F16_0C (Kn : Value -> Value -> Value -> World -> Prop) : Post := fun o t w => match o with | .normal => Kn (t 0) (t 2) (t 3) w | .exit _ => False | .ret => False
def F16_0 (Kn : Value -> Value -> Value -> World -> Prop) (x0 : Value) (w : World) : Prop :=
 rdS x0 fun s1 => alc (.cells ((R49.mk 0 0 0 0 0 0 0 0 0 0 0 0 0 0 0 0 0 0 0 0 0 0 0 0 0 0 0 0 0 0 0 0 0 0 0 0 0 0 false false false)).c 50) w fun b2 w3 => alc (.cells #[(.int .i64 0)] 28) w3 fun b4 w5 => Kn (.string s1) (.pointer (some (Addr.mk b2 0 none))) (.pointer (some (Addr.mk b4 0 none))) w5
def F16_0O (Q : Post) (t : Tm) (w : World) : Prop := F16_0 (fun y0 y2 y3 w => ∀ g,rsh [(0,(.one .str)),(2,(.one .adr)),(3,(.one .adr))] (upds g [(0,y0),(2,y2),(3,y3)]) fun t => Q .normal t w) (t 0) w
theorem F16_0_step (Kn : Value -> Value -> Value -> World -> Prop) (t : Tm) (w : World) : (F16_0 Kn (t 0) w) = rsh [(0,(.one .str))] t (fun t => vc Tryz.prog (orcOf []) [0] (getAt F16_code [0]) (F16_0C Kn) t w) := by kernel_rfl
theorem F16_0_oc : okC Tryz.prog Tryz.f16.ntmps (getAt F16_code [0]) = true := by kernel_rfl
theorem F16_0_ok0 : ∀ Q t w,F16_0O Q t w -> W Tryz.prog Tryz.f16.ntmps (getAt F16_code [0]) Q t w := by
 intro Q t w h
 unfold F16_0O at h
 rw [F16_0_step] at h
 refine (vc_sound mixed (orcNil F16_code) _ _ rfl F16_0_oc _ _ _ (rsh_out h)).mono ?_
 intro o t w q
 cases o with
 | normal => exact out_ok [0,2,3] q
 | exit i => exact q.elim
 | ret => exact q.elim
end
section
variable [Esc]
def F16_1C (Kr : Value -> Value -> World -> Prop) : Post := fun o t w => match o with | .normal => False | .exit _ => False | .ret => Kr (t 2) (t 3) w
def F16_1 (Kr : Value -> Value -> World -> Prop) (x0 : Value) (x2 : Value) (x3 : Value) (w : World) : Prop :=
 rdS x0 fun s1 => rdA x2 fun a2 => rdA x3 fun a3 => alc (.cells ((R49.mk 0 0 0 0 0 0 0 0 0 0 0 0 0 0 0 0 0 0 0 0 0 0 0 0 0 0 0 0 0 0 0 0 0 0 0 0 0 0 false false false)).c 50) w fun b4 w5 => Calls Tryz.prog 32 #[(.string s1),(.string ⟨#[32]⟩)] w5 (en fun e7 w6 => ∃ l8a l8n l8c,e7 = .returned (.slice l8a l8n l8c) /\ (alc (.cells #[(.slice l8a l8n l8c),(.bool true)] 79) w6 fun b9 w10 => Calls Tryz.prog 39 #[(.pointer (some (Addr.mk b9 0 none))),(.pointer (some (Addr.mk b4 0 none)))] w10 (en fun e12 w11 => e12 = .returned (.tuple #[]) /\ (Calls Tryz.prog 34 #[(.pointer (some (Addr.mk b9 0 none)))] w11 (en fun e14 w13 => e14 = .returned (.tuple #[]) /\ (ldR49 (Addr.mk b4 0 none) w13 fun s15 => stcL a2 0 s15.l w13 fun w16 => stc a3 (.int .i64 0) w16 fun w17 => Kr (.pointer (some a2)) (.pointer (some a3)) w17))))))
def F16_1O (Q : Post) (t : Tm) (w : World) : Prop := F16_1 (fun y2 y3 w => ∀ g,rsh [(2,(.one .adr)),(3,(.one .adr))] (upds g [(2,y2),(3,y3)]) fun t => Q .ret t w) (t 0) (t 2) (t 3) w
theorem F16_1_step (Kr : Value -> Value -> World -> Prop) (t : Tm) (w : World) : (F16_1 Kr (t 0) (t 2) (t 3) w) = rsh [(0,(.one .str)),(2,(.one .adr)),(3,(.one .adr))] t (fun t => vc Tryz.prog (orcOf []) [1,1] (getAt F16_code [1,1]) (F16_1C Kr) t w) := by kernel_rfl
omit [Esc] in
theorem F16_1_oc {σ : Tm} : okP Tryz.prog ⟨Tryz.f16.ntmps,[2,3],σ⟩ [] [1,1] (getAt F16_code [1,1]) = true := by kernel_rfl
theorem F16_1_ok {σ : Tm} : ∀ Q t w,F16_1O Q t w -> W Tryz.prog ⟨Tryz.f16.ntmps,[2,3],σ⟩ (getAt F16_code [1,1]) Q t w := by
 intro Q t w h
 unfold F16_1O at h
 rw [F16_1_step] at h
 refine (vc_soundO mixed (orcNil F16_code) hps_nil _ _ rfl F16_1_oc _ _ _ (rsh_out h)).mono ?_
 intro o t w q
 cases o with
 | normal => exact q.elim
 | exit i => exact q.elim
 | ret => exact out_ok [2,3] q
end
noncomputable def F8_code : Code := Tryz.f8.body.getD .skip
section
attribute [local instance] Esc.none
def F8_0C (Kn : Value -> Value -> Value -> World -> Prop) : Post := fun o t w => match o with | .normal => Kn (t 1) (t 2) (t 3) w | .exit _ => False | .ret => False
def F8_0 (Kn : Value -> Value -> Value -> World -> Prop) (x0 : Value) (w : World) : Prop :=
 exR26 fun s1 => x0 = s1.v /\ (alc (.cells s1.c 27) w fun b2 w3 => alc (.cells #[(.int .i64 0)] 28) w3 fun b4 w5 => Kn (.pointer (some (Addr.mk b2 0 none))) (.string ⟨#[]⟩) (.pointer (some (Addr.mk b4 0 none))) w5)
def F8_0O (Q : Post) (t : Tm) (w : World) : Prop := F8_0 (fun y1 y2 y3 w => ∀ g,rsh [(1,(.one .adr)),(2,(.one .str)),(3,(.one .adr))] (upds g [(1,y1),(2,y2),(3,y3)]) fun t => Q .normal t w) (t 0) w
theorem F8_0_step (Kn : Value -> Value -> Value -> World -> Prop) (t : Tm) (w : World) : (F8_0 Kn (t 0) w) = rsh [(0,(.agg [(.int .i64),(.int .i64),(.int .i64),(.int .i64),(.int .i64),(.int .u8),(.int .i64),(.int .u16),(.int .u32),.bool,.slc,.str]))] t (fun t => vc Tryz.prog (orcOf []) [0] (getAt F8_code [0]) (F8_0C Kn) t w) := by kernel_rfl
theorem F8_0_oc : okC Tryz.prog Tryz.f8.ntmps (getAt F8_code [0]) = true := by kernel_rfl
theorem F8_0_ok0 : ∀ Q t w,F8_0O Q t w -> W Tryz.prog Tryz.f8.ntmps (getAt F8_code [0]) Q t w := by
 intro Q t w h
 unfold F8_0O at h
 rw [F8_0_step] at h
 refine (vc_sound mixed (orcNil F8_code) _ _ rfl F8_0_oc _ _ _ (rsh_out h)).mono ?_
 intro o t w q
 cases o with
 | normal => exact out_ok [1,2,3] q
 | exit i => exact q.elim
 | ret => exact q.elim
end
section
attribute [local instance] Esc.none
def F8_1C (Kr : Value -> Value -> World -> Prop) : Post := fun o t w => match o with | .normal => False | .exit _ => False | .ret => Kr (t 2) (t 3) w
def F8_1 (Kr : Value -> Value -> World -> Prop) (x3 : Value) (x6 : Value) (w : World) : Prop :=
 rdA x3 fun a1 => rdS x6 fun s2 => stc a1 (.int .i64 0) w fun w3 => Kr (.string s2) (.pointer (some a1)) w3
def F8_1O (Q : Post) (t : Tm) (w : World) : Prop := F8_1 (fun y2 y3 w => ∀ g,rsh [(2,(.one .str)),(3,(.one .adr))] (upds g [(2,y2),(3,y3)]) fun t => Q .ret t w) (t 3) (t 6) w
theorem F8_1_step (Kr : Value -> Value -> World -> Prop) (t : Tm) (w : World) : (F8_1 Kr (t 3) (t 6) w) = rsh [(3,(.one .adr)),(6,(.one .str))] t (fun t => vc Tryz.prog (orcOf []) [1,1,1,1,1,1,1,1] (getAt F8_code [1,1,1,1,1,1,1,1]) (F8_1C Kr) t w) := by kernel_rfl
theorem F8_1_oc : okC Tryz.prog Tryz.f8.ntmps (getAt F8_code [1,1,1,1,1,1,1,1]) = true := by kernel_rfl
theorem F8_1_ok0 : ∀ Q t w,F8_1O Q t w -> W Tryz.prog Tryz.f8.ntmps (getAt F8_code [1,1,1,1,1,1,1,1]) Q t w := by
 intro Q t w h
 unfold F8_1O at h
 rw [F8_1_step] at h
 refine (vc_sound mixed (orcNil F8_code) _ _ rfl F8_1_oc _ _ _ (rsh_out h)).mono ?_
 intro o t w q
 cases o with
 | normal => exact q.elim
 | exit i => exact q.elim
 | ret => exact out_ok [2,3] q
end
def F8_1L (Q : Post) (t : Tm) (w : World) : Prop := F8_1O (fun o t w => match o with | .ret => Q .ret t w | _ => False) t w
theorem F8_1_ok [Esc] {σ : Tm} : ∀ Q t w,F8_1L Q t w -> W Tryz.prog ⟨Tryz.f8.ntmps,[2,3],σ⟩ (getAt F8_code [1,1,1,1,1,1,1,1]) Q t w := fun _ _ _ h => W_lift (F8_1_ok0 _ _ _ h)
section
variable [Esc]
def F8_2C (Kr : Value -> Value -> World -> Prop) : Post := fun o t w => match o with | .normal => False | .exit _ => False | .ret => Kr (t 2) (t 3) w
def F8_2 (Kr : Value -> Value -> World -> Prop) (x1 : Value) (x3 : Value) (w : World) : Prop :=
 rdA x1 fun a1 => rdA x3 fun a2 => ldR26 a1 w fun s3 => alc (.cells ((R26.mk 0 0 0 0 0 0 0 0 0 false none 0 0 ⟨#[]⟩)).c 27) w fun b4 w5 => stcL (Addr.mk b4 0 none) 0 s3.l w5 fun w6 => alc (.cells #[(.slice none 0 0),(.bool false)] 79) w6 fun b7 w8 => alc (.cells #[(.pointer none),(.pointer none)] 82) w8 fun b9 w10 => stc ((Addr.mk b9 0 none).add 0) (.pointer (some (Addr.mk b7 0 none))) w10 fun w11 => stc ((Addr.mk b9 0 none).add 1) (.pointer (some (Addr.mk b4 0 none))) w11 fun w12 => ldP ((Addr.mk b9 0 none).add 0) w12 fun p13 => ldP ((Addr.mk b9 0 none).add 1) w12 fun p14 => Calls Tryz.prog 25 #[(.agg #[(.pointer p13),(.pointer p14)]),(.int .i64 1),(.func (.func 26) #[] #[(.pointer (some a1))])] w12 (en fun e16 w15 => e16 = .returned (.tuple #[]) /\ (ldP ((Addr.mk b9 0 none).add 0) w15 fun p17 => Calls Tryz.prog 27 #[(.pointer p17)] w15 (en fun e19 w18 => ∃ s20,e19 = .returned (.string s20) /\ (Calls Tryz.prog 10 #[(.string s20)] w18 (en fun e22 w21 => exR26 fun s23 => ∃ n24,e22 = .returned (.tuple #[s23.v,(.int .i64 n24)]) /\ (alc (.cells ((R26.mk 0 0 0 0 0 0 0 0 0 false none 0 0 ⟨#[]⟩)).c 27) w21 fun b25 w26 => stcL (Addr.mk b25 0 none) 0 s23.l w26 fun w27 => br (n24 == 0) (ldR26 (Addr.mk b25 0 none) w27 fun s28 => ldR26 a1 w27 fun s29 => Calls Tryz.prog 29 #[s28.v,s29.v] w27 (en fun e31 w30 => ∃ b32,e31 = .returned (.bool b32) /\ (Calls Tryz.prog 28 #[(.bool b32),(.int .i64 1)] w30 (en fun e34 w33 => e34 = .returned (.tuple #[]) /\ (F8_1 (fun y2_34 y3_34 w36 => ∀ _g37 : Tm,rdS y2_34 fun s38 => rdA y3_34 fun a39 => Kr (.string s38) (.pointer (some a39)) w36) (.pointer (some a2)) (.string s20) w33))))) (Calls Tryz.prog 28 #[(.bool false),(.int .i64 1)] w27 (en fun e41 w40 => e41 = .returned (.tuple #[]) /\ (F8_1 (fun y2_41 y3_41 w43 => ∀ _g44 : Tm,rdS y2_41 fun s45 => rdA y3_41 fun a46 => Kr (.string s45) (.pointer (some a46)) w43) (.pointer (some a2)) (.string s20) w40)))))))))
def F8_2O (Q : Post) (t : Tm) (w : World) : Prop := F8_2 (fun y2 y3 w => ∀ g,rsh [(2,(.one .str)),(3,(.one .adr))] (upds g [(2,y2),(3,y3)]) fun t => Q .ret t w) (t 1) (t 3) w
theorem F8_2_step (Kr : Value -> Value -> World -> Prop) (t : Tm) (w : World) : (F8_2 Kr (t 1) (t 3) w) = rsh [(1,(.one .adr)),(3,(.one .adr))] t (fun t => vc Tryz.prog (orcOf [([1,1,1,1,1,1,1,1],F8_1L)]) [1,1] (getAt F8_code [1,1]) (F8_2C Kr) t w) := by kernel_rfl
omit [Esc] in
theorem F8_2_oc {σ : Tm} : okP Tryz.prog ⟨Tryz.f8.ntmps,[2,3],σ⟩ [[1,1,1,1,1,1,1,1]] [1,1] (getAt F8_code [1,1]) = true := by kernel_rfl
theorem F8_2_ok {σ : Tm} : ∀ Q t w,F8_2O Q t w -> W Tryz.prog ⟨Tryz.f8.ntmps,[2,3],σ⟩ (getAt F8_code [1,1]) Q t w := by
 intro Q t w h
 unfold F8_2O at h
 rw [F8_2_step] at h
 refine (vc_soundO mixed (orcCons (π := [1,1,1,1,1,1,1,1]) F8_1_ok (orcNil F8_code)) (hps_cons hps_nil) _ _ rfl F8_2_oc _ _ _ (rsh_out h)).mono ?_
 intro o t w q
 cases o with
 | normal => exact q.elim
 | exit i => exact q.elim
 | ret => exact out_ok [2,3] q
end
noncomputable def F10_code : Code := Tryz.f10.body.getD .skip
section
attribute [local instance] Esc.none
def F10_0C (Kn : Value -> Value -> Value -> World -> Prop) : Post := fun o t w => match o with | .normal => Kn (t 0) (t 2) (t 3) w | .exit _ => False | .ret => False
def F10_0 (Kn : Value -> Value -> Value -> World -> Prop) (x0 : Value) (w : World) : Prop :=
 rdS x0 fun s1 => alc (.cells ((R26.mk 0 0 0 0 0 0 0 0 0 false none 0 0 ⟨#[]⟩)).c 27) w fun b2 w3 => alc (.cells #[(.int .i64 0)] 28) w3 fun b4 w5 => Kn (.string s1) (.pointer (some (Addr.mk b2 0 none))) (.pointer (some (Addr.mk b4 0 none))) w5
def F10_0O (Q : Post) (t : Tm) (w : World) : Prop := F10_0 (fun y0 y2 y3 w => ∀ g,rsh [(0,(.one .str)),(2,(.one .adr)),(3,(.one .adr))] (upds g [(0,y0),(2,y2),(3,y3)]) fun t => Q .normal t w) (t 0) w
theorem F10_0_step (Kn : Value -> Value -> Value -> World -> Prop) (t : Tm) (w : World) : (F10_0 Kn (t 0) w) = rsh [(0,(.one .str))] t (fun t => vc Tryz.prog (orcOf []) [0] (getAt F10_code [0]) (F10_0C Kn) t w) := by kernel_rfl
theorem F10_0_oc : okC Tryz.prog Tryz.f10.ntmps (getAt F10_code [0]) = true := by kernel_rfl
theorem F10_0_ok0 : ∀ Q t w,F10_0O Q t w -> W Tryz.prog Tryz.f10.ntmps (getAt F10_code [0]) Q t w := by
 intro Q t w h
 unfold F10_0O at h
 rw [F10_0_step] at h
 refine (vc_sound mixed (orcNil F10_code) _ _ rfl F10_0_oc _ _ _ (rsh_out h)).mono ?_
 intro o t w q
 cases o with
 | normal => exact out_ok [0,2,3] q
 | exit i => exact q.elim
 | ret => exact q.elim
end
section
variable [Esc]
def F10_1C (Kr : Value -> Value -> World -> Prop) : Post := fun o t w => match o with | .normal => False | .exit _ => False | .ret => Kr (t 2) (t 3) w
def F10_1 (Kr : Value -> Value -> World -> Prop) (x0 : Value) (x2 : Value) (x3 : Value) (w : World) : Prop :=
 rdS x0 fun s1 => rdA x2 fun a2 => rdA x3 fun a3 => alc (.cells ((R26.mk 0 0 0 0 0 0 0 0 0 false none 0 0 ⟨#[]⟩)).c 27) w fun b4 w5 => Calls Tryz.prog 32 #[(.string s1),(.string ⟨#[32]⟩)] w5 (en fun e7 w6 => ∃ l8a l8n l8c,e7 = .returned (.slice l8a l8n l8c) /\ (alc (.cells #[(.slice l8a l8n l8c),(.bool true)] 79) w6 fun b9 w10 => alc (.cells #[(.pointer none),(.pointer none)] 82) w10 fun b11 w12 => stc ((Addr.mk b11 0 none).add 0) (.pointer (some (Addr.mk b9 0 none))) w12 fun w13 => stc ((Addr.mk b11 0 none).add 1) (.pointer (some (Addr.mk b4 0 none))) w13 fun w14 => ldP ((Addr.mk b11 0 none).add 0) w14 fun p15 => nn p15 fun a16 => ldC (a16.add 0) w14 fun l17a l17n _ => ixS 1 l17a l17n 0 fun a18 => ldS a18 w14 fun s19 => alc (.cells #[(.string ⟨#[]⟩)] 9) w14 fun b20 w21 => stc (Addr.mk b20 0 none) (.string s19) w21 fun w22 => ldP ((Addr.mk b11 0 none).add 0) w22 fun p23 => ldP ((Addr.mk b11 0 none).add 1) w22 fun p24 => Calls Tryz.prog 25 #[(.agg #[(.pointer p23),(.pointer p24)]),(.int .i64 250),(.func (.func 33) #[] #[(.pointer (some (Addr.mk b20 0 none)))])] w22 (en fun e26 w25 => e26 = .returned (.tuple #[]) /\ (ldP ((Addr.mk b11 0 none).add 0) w25 fun p27 => Calls Tryz.prog 34 #[(.pointer p27)] w25 (en fun e29 w28 => e29 = .returned (.tuple #[]) /\ (ldR26 (Addr.mk b4 0 none) w28 fun s30 => stcL a2 0 s30.l w28 fun w31 => stc a3 (.int .i64 0) w31 fun w32 => Kr (.pointer (some a2)) (.pointer (some a3)) w32))))))
def F10_1O (Q : Post) (t : Tm) (w : World) : Prop := F10_1 (fun y2 y3 w => ∀ g,rsh [(2,(.one .adr)),(3,(.one .adr))] (upds g [(2,y2),(3,y3)]) fun t => Q .ret t w) (t 0) (t 2) (t 3) w
theorem F10_1_step (Kr : Value -> Value -> World -> Prop) (t : Tm) (w : World) : (F10_1 Kr (t 0) (t 2) (t 3) w) = rsh [(0,(.one .str)),(2,(.one .adr)),(3,(.one .adr))] t (fun t => vc Tryz.prog (orcOf []) [1,1] (getAt F10_code [1,1]) (F10_1C Kr) t w) := by kernel_rfl
omit [Esc] in
theorem F10_1_oc {σ : Tm} : okP Tryz.prog ⟨Tryz.f10.ntmps,[2,3],σ⟩ [] [1,1] (getAt F10_code [1,1]) = true := by kernel_rfl
theorem F10_1_ok {σ : Tm} : ∀ Q t w,F10_1O Q t w -> W Tryz.prog ⟨Tryz.f10.ntmps,[2,3],σ⟩ (getAt F10_code [1,1]) Q t w := by
 intro Q t w h
 unfold F10_1O at h
 rw [F10_1_step] at h
 refine (vc_soundO mixed (orcNil F10_code) hps_nil _ _ rfl F10_1_oc _ _ _ (rsh_out h)).mono ?_
 intro o t w q
 cases o with
 | normal => exact q.elim
 | exit i => exact q.elim
 | ret => exact out_ok [2,3] q
end
noncomputable def F24_code : Code := Tryz.f24.body.getD .skip
section
attribute [local instance] Esc.none
def F24_0C (Kn : World -> Prop) (Kr : World -> Prop) : Post := fun o _ w => match o with | .normal => Kn  w | .exit _ => False | .ret => Kr  w
def F24_0 (Kn : World -> Prop) (Kr : World -> Prop) (x0 : Value) (x2 : Value) (w : World) : Prop :=
 rdP x0 fun p1 => ((x2 = .nilIface /\ (∃ b4,∃ w5,Sem.run Tryz.prog (binF Tryz.prog .eql 20 (.tmp 6) (.const .nilIface) .nilIface .nilIface) w = .ok (.bool b4) w5 /\ (br b4 (Kr w5) (∃ n6,∃ b7,∃ w8,Sem.run Tryz.prog (Instr.typeAssert .nilIface 20 113 true) w5 = .ok (.tuple #[(.agg #[(.int .i64 n6)]),(.bool b7)]) w8 /\ (alc (.cells #[(.int .i64 0)] 113) w8 fun b9 w10 => stc ((Addr.mk b9 0 none).add 0) (.int .i64 n6) w10 fun w11 => br (!b7) (False) (ldI .i64 ((Addr.mk b9 0 none).add 0) w11 fun n12 => nn p1 fun a13 => stc a13 (.int .i64 n12) w11 fun w14 => Kn w14)))))) \/ (∃ u2 v3,x2 = .iface u2 v3 /\ (∃ b15,∃ w16,Sem.run Tryz.prog (binF Tryz.prog .eql 20 (.tmp 6) (.const .nilIface) (.iface u2 v3) .nilIface) w = .ok (.bool b15) w16 /\ (br b15 (Kr w16) (∃ n17,∃ b18,∃ w19,Sem.run Tryz.prog (Instr.typeAssert (.iface u2 v3) 20 113 true) w16 = .ok (.tuple #[(.agg #[(.int .i64 n17)]),(.bool b18)]) w19 /\ (alc (.cells #[(.int .i64 0)] 113) w19 fun b20 w21 => stc ((Addr.mk b20 0 none).add 0) (.int .i64 n17) w21 fun w22 => br (!b18) (Esc.E [{ v := (.iface u2 v3),recovered := false }] w22) (ldI .i64 ((Addr.mk b20 0 none).add 0) w22 fun n23 => nn p1 fun a24 => stc a24 (.int .i64 n23) w22 fun w25 => Kn w25)))))))
def F24_0O (Q : Post) (t : Tm) (w : World) : Prop := F24_0 (fun w => ∀ g,rsh [] (upds g []) fun t => Q .normal t w) (fun w => ∀ g,rsh [] (upds g []) fun t => Q .ret t w) (t 0) (t 2) w
theorem F24_0_step (Kn : World -> Prop) (Kr : World -> Prop) (t : Tm) (w : World) : (F24_0 Kn Kr (t 0) (t 2) w) = rsh [(0,(.one .ptr)),(2,(.one .ifc))] t (fun t => vc Tryz.prog (orcOf []) [1] (getAt F24_code [1]) (F24_0C Kn Kr) t w) := by kernel_rfl
theorem F24_0_oc : okC Tryz.prog Tryz.f24.ntmps (getAt F24_code [1]) = true := by kernel_rfl
theorem F24_0_ok0 : ∀ Q t w,F24_0O Q t w -> W Tryz.prog Tryz.f24.ntmps (getAt F24_code [1]) Q t w := by
 intro Q t w h
 unfold F24_0O at h
 rw [F24_0_step] at h
 refine (vc_sound mixed (orcNil F24_code) _ _ rfl F24_0_oc _ _ _ (rsh_out h)).mono ?_
 intro o t w q
 cases o with
 | normal => exact out_ok [] q
 | exit i => exact q.elim
 | ret => exact out_ok [] q
end
end Go.Proofs.YtilenpnpnbdndaaGreatDoor
