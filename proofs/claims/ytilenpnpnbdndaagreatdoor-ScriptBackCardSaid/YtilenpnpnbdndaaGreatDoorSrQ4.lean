/- Own text: part of the shallow reading of the code and of the contracts that are proved over it. -/
import Derived.Test.YtilenpnpnbdndaaGreatDoorShR
import Derived.KernelRfl
namespace Go.Proofs.YtilenpnpnbdndaaGreatDoor
open Go Go.Sh
set_option maxRecDepth 100000
set_option maxHeartbeats 4000000
attribute [local instance] Esc.none
noncomputable def F19_code : Code := Tryz.f19.body.getD .skip
theorem F19_code_ok : okC Tryz.prog Tryz.f19.ntmps F19_code = true := by kernel_rfl
def F19_1C (K2 : Value -> World -> Prop) (Kr : Value -> Value -> Value -> World -> Prop) : Post := fun o t w => match o with | .normal => False | .exit i => (match Nat.beq i 2 with | true => K2 (t 5) w | false => False) | .ret => Kr (t 2) (t 3) (t 4) w
def F19_1B (R : Value -> Value -> Value -> World -> Prop) (K2 : Value -> World -> Prop) (Kr : Value -> Value -> Value -> World -> Prop) (x1 : Value) (x5 : Value) (x9 : Value) (w : World) : Prop :=
 rdA x1 fun a1 => rdC x5 fun l2a l2n l2c => rdI .i64 x9 fun n3 => ldC (a1.add 82) w fun _ l4n _ => br (decide ((n3 : Int) < (l4n : Int))) (ldC (a1.add 82) w fun l5a l5n _ => ixS 12 l5a l5n n3 fun a6 => ldR26 a6 w fun s7 => Calls Tryz.prog 9 #[s7.v] w (en fun e9 w8 => ∃ s10,∃ n11,e9 = .returned (.tuple #[(.string s10),(.int .i64 n11)]) /\ (br (n11 != 0) (Kr (.string ⟨#[]⟩) (.int .i64 n3) (.int .i64 1) w8) (br (decide (((l2n : Int) : Int) <= 4194304)) (cat s10 ⟨#[10]⟩ fun s12 => ∃ l13a l13n l13c w14,Sem.run Tryz.prog (Builtin.append_ #[25,9] 25 #[(.slice l2a l2n l2c),(.string s12)]) w8 = .ok (.slice l13a l13n l13c) w14 /\ (R (.pointer (some a1)) (.slice l13a l13n l13c) (.int .i64 (IntKind.wrap .i64 (n3 + 1))) w14)) (R (.pointer (some a1)) (.slice l2a l2n l2c) (.int .i64 (IntKind.wrap .i64 (n3 + 1))) w8))))) (K2 (.slice l2a l2n l2c) w)
def F19_1 (K2 : Value -> World -> Prop) (Kr : Value -> Value -> Value -> World -> Prop) : Nat -> Value -> Value -> Value -> World -> Prop
 | 0 => fun _ _ _ _ => False
 | n + 1 => F19_1B (F19_1 K2 Kr n) K2 Kr
def F19_1O (Q : Post) (t : Tm) (w : World) : Prop := ∃ n,F19_1 (fun y5 w => ∀ g,rsh [(5,(.one .slc))] (upds g [(5,y5)]) fun t => Q (.exit 2) t w) (fun y2 y3 y4 w => ∀ g,rsh [(2,(.one .str)),(3,(.one (.int .i64))),(4,(.one (.int .i64)))] (upds g [(2,y2),(3,y3),(4,y4)]) fun t => Q .ret t w) n (t 1) (t 5) (t 9) w
theorem F19_1_step (K2 : Value -> World -> Prop) (Kr : Value -> Value -> Value -> World -> Prop) (n : Nat) (t : Tm) (w : World) : (F19_1 K2 Kr (n + 1) (t 1) (t 5) (t 9) w) = rsh [(1,(.one .adr)),(5,(.one .slc)),(9,(.one (.int .i64)))] t (fun t => vc Tryz.prog (orcOf []) [0,0,1,0,1,1,1,1] (getAt F19_code [0,0,1,0,1,1,1,1]) (fun o t w => match o with | .normal => F19_1 K2 Kr n (t 1) (t 5) (t 9) w | .exit i => F19_1C K2 Kr (.exit i) t w | .ret => F19_1C K2 Kr .ret t w) t w) := by kernel_rfl
theorem F19_1_ok : ∀ Q t w,F19_1O Q t w -> W Tryz.prog Tryz.f19.ntmps (getAt F19_code [0,1,0,1,1,1,1]) Q t w := by
 intro Q t w ⟨n,h⟩
 refine (W_loop (P := Tryz.prog) (b := getAt F19_code [0,0,1,0,1,1,1,1]) (Q := F19_1C (fun y5 w => ∀ g,rsh [(5,(.one .slc))] (upds g [(5,y5)]) fun t => Q (.exit 2) t w) (fun y2 y3 y4 w => ∀ g,rsh [(2,(.one .str)),(3,(.one (.int .i64))),(4,(.one (.int .i64)))] (upds g [(2,y2),(3,y3),(4,y4)]) fun t => Q .ret t w)) (G := fun n t w => F19_1 (fun y5 w => ∀ g,rsh [(5,(.one .slc))] (upds g [(5,y5)]) fun t => Q (.exit 2) t w) (fun y2 y3 y4 w => ∀ g,rsh [(2,(.one .str)),(3,(.one (.int .i64))),(4,(.one (.int .i64)))] (upds g [(2,y2),(3,y3),(4,y4)]) fun t => Q .ret t w) n (t 1) (t 5) (t 9) w) (fun _ _ h => h) (fun n t w h => ?_) n t w h).mono ?_
 ·rw [F19_1_step] at h
  exact vc_sound mixed (orcNil F19_code) _ _ rfl (okC_at F19_code_ok [0,0,1,0,1,1,1,1]) _ _ _ (rsh_out h)
 ·intro o t w q
  cases o with
  | normal => exact q.elim
  | exit i =>
   unfold F19_1C at q
   simp only at q
   split at q
   ·rename_i hi
    rw [nbeq] at hi
    subst hi
    exact out_ok [5] q
   ·exact q.elim
  | ret => exact out_ok [2,3,4] q
def F19_2C (K0 : Value -> Value -> World -> Prop) (Kr : Value -> Value -> Value -> World -> Prop) : Post := fun o t w => match o with | .normal => False | .exit i => (match Nat.beq i 0 with | true => K0 (t 1) (t 5) w | false => False) | .ret => Kr (t 2) (t 3) (t 4) w
def F19_2B (R : Value -> Value -> Value -> World -> Prop) (K0 : Value -> Value -> World -> Prop) (Kr : Value -> Value -> Value -> World -> Prop) (x1 : Value) (x5 : Value) (x6 : Value) (w : World) : Prop :=
 rdA x1 fun a1 => rdC x5 fun l2a l2n l2c => rdI .i64 x6 fun n3 => br (decide ((n3 : Int) < 2)) (ixA 41 2 (a1.add 0) n3 fun a4 => ldR49 a4 w fun s5 => Calls Tryz.prog 15 #[s5.v] w (en fun e7 w6 => ∃ s8,∃ n9,e7 = .returned (.tuple #[(.string s8),(.int .i64 n9)]) /\ (br (n9 != 0) (Kr (.string ⟨#[]⟩) (.int .i64 (-1)) (.int .i64 1) w6) (cat s8 ⟨#[10]⟩ fun s10 => ∃ l11a l11n l11c w12,Sem.run Tryz.prog (Builtin.append_ #[25,9] 25 #[(.slice l2a l2n l2c),(.string s10)]) w6 = .ok (.slice l11a l11n l11c) w12 /\ (R (.pointer (some a1)) (.slice l11a l11n l11c) (.int .i64 (IntKind.wrap .i64 (n3 + 1))) w12))))) (K0 (.pointer (some a1)) (.slice l2a l2n l2c) w)
def F19_2 (K0 : Value -> Value -> World -> Prop) (Kr : Value -> Value -> Value -> World -> Prop) : Nat -> Value -> Value -> Value -> World -> Prop
 | 0 => fun _ _ _ _ => False
 | n + 1 => F19_2B (F19_2 K0 Kr n) K0 Kr
def F19_2O (Q : Post) (t : Tm) (w : World) : Prop := ∃ n,F19_2 (fun y1 y5 w => ∀ g,rsh [(1,(.one .adr)),(5,(.one .slc))] (upds g [(1,y1),(5,y5)]) fun t => Q (.exit 0) t w) (fun y2 y3 y4 w => ∀ g,rsh [(2,(.one .str)),(3,(.one (.int .i64))),(4,(.one (.int .i64)))] (upds g [(2,y2),(3,y3),(4,y4)]) fun t => Q .ret t w) n (t 1) (t 5) (t 6) w
theorem F19_2_step (K0 : Value -> Value -> World -> Prop) (Kr : Value -> Value -> Value -> World -> Prop) (n : Nat) (t : Tm) (w : World) : (F19_2 K0 Kr (n + 1) (t 1) (t 5) (t 6) w) = rsh [(1,(.one .adr)),(5,(.one .slc)),(6,(.one (.int .i64)))] t (fun t => vc Tryz.prog (orcOf []) [0,0,1,0,1,1] (getAt F19_code [0,0,1,0,1,1]) (fun o t w => match o with | .normal => F19_2 K0 Kr n (t 1) (t 5) (t 6) w | .exit i => F19_2C K0 Kr (.exit i) t w | .ret => F19_2C K0 Kr .ret t w) t w) := by kernel_rfl
theorem F19_2_ok : ∀ Q t w,F19_2O Q t w -> W Tryz.prog Tryz.f19.ntmps (getAt F19_code [0,1,0,1,1]) Q t w := by
 intro Q t w ⟨n,h⟩
 refine (W_loop (P := Tryz.prog) (b := getAt F19_code [0,0,1,0,1,1]) (Q := F19_2C (fun y1 y5 w => ∀ g,rsh [(1,(.one .adr)),(5,(.one .slc))] (upds g [(1,y1),(5,y5)]) fun t => Q (.exit 0) t w) (fun y2 y3 y4 w => ∀ g,rsh [(2,(.one .str)),(3,(.one (.int .i64))),(4,(.one (.int .i64)))] (upds g [(2,y2),(3,y3),(4,y4)]) fun t => Q .ret t w)) (G := fun n t w => F19_2 (fun y1 y5 w => ∀ g,rsh [(1,(.one .adr)),(5,(.one .slc))] (upds g [(1,y1),(5,y5)]) fun t => Q (.exit 0) t w) (fun y2 y3 y4 w => ∀ g,rsh [(2,(.one .str)),(3,(.one (.int .i64))),(4,(.one (.int .i64)))] (upds g [(2,y2),(3,y3),(4,y4)]) fun t => Q .ret t w) n (t 1) (t 5) (t 6) w) (fun _ _ h => h) (fun n t w h => ?_) n t w h).mono ?_
 ·rw [F19_2_step] at h
  exact vc_sound mixed (orcNil F19_code) _ _ rfl (okC_at F19_code_ok [0,0,1,0,1,1]) _ _ _ (rsh_out h)
 ·intro o t w q
  cases o with
  | normal => exact q.elim
  | exit i =>
   unfold F19_2C at q
   simp only at q
   split at q
   ·rename_i hi
    rw [nbeq] at hi
    subst hi
    exact out_ok [1,5] q
   ·exact q.elim
  | ret => exact out_ok [2,3,4] q
def F19 (x0 : Value) (w : World) (K : Value -> World -> Prop) : Prop :=
 exR60 fun s1 => x0 = s1.v /\ (alc (.cells s1.c 61) w fun b2 w3 => ∃ k29 : Nat,F19_2 (fun y1_3 y5_3 w5 => ∀ _g6 : Tm,rdA y1_3 fun a7 => rdC y5_3 fun l8a l8n l8c => ldC (a7.add 82) w5 fun _ l9n _ => br (decide (((l9n : Int) : Int) > 65536)) (K (.tuple #[(.string ⟨#[]⟩),(.int .i64 (-1)),(.int .i64 3)]) w5) (∃ k22 : Nat,F19_1 (fun y5_9 w11 => ∀ _g12 : Tm,rdC y5_9 fun l13a l13n l13c => br (decide (((l13n : Int) : Int) > 4194304)) (K (.tuple #[(.string ⟨#[]⟩),(.int .i64 (-1)),(.int .i64 2)]) w11) (∃ s14,∃ w15,Sem.run Tryz.prog (convert 25 9 (.slice l13a l13n l13c)) w11 = .ok (.string s14) w15 /\ (K (.tuple #[(.string s14),(.int .i64 0),(.int .i64 0)]) w15))) (fun y2_15 y3_15 y4_15 w17 => ∀ _g18 : Tm,rdS y2_15 fun s19 => rdI .i64 y3_15 fun n20 => rdI .i64 y4_15 fun n21 => K (.tuple #[(.string s19),(.int .i64 n20),(.int .i64 n21)]) w17) k22 (.pointer (some a7)) (.slice l8a l8n l8c) (.int .i64 0) w5)) (fun y2_22 y3_22 y4_22 w24 => ∀ _g25 : Tm,rdS y2_22 fun s26 => rdI .i64 y3_22 fun n27 => rdI .i64 y4_22 fun n28 => K (.tuple #[(.string s26),(.int .i64 n27),(.int .i64 n28)]) w24) k29 (.pointer (some (Addr.mk b2 0 none))) (.slice none 0 0) (.int .i64 0) w3)
theorem F19_step (x0 : Value) (w : World) (K : Value -> World -> Prop) : (F19 x0 w K) = rsh [(0,(.agg [(.int .u8),(.int .u8),(.int .u8),(.int .u8),(.int .u8),(.int .u8),(.int .u8),(.int .u8),(.int .u8),(.int .u8),(.int .u8),(.int .u8),(.int .u8),(.int .u8),(.int .u8),(.int .u8),(.int .u64),(.int .i64),(.int .u32),(.int .u16),(.int .u16),(.int .i64),(.int .i64),(.int .u16),(.int .u16),(.int .i64),(.int .i64),(.int .i64),(.int .i64),(.int .i64),(.int .i64),(.int .i64),(.int .i64),(.int .i64),(.int .i64),(.int .i64),(.int .i64),(.int .i64),.bool,.bool,.bool,(.int .u8),(.int .u8),(.int .u8),(.int .u8),(.int .u8),(.int .u8),(.int .u8),(.int .u8),(.int .u8),(.int .u8),(.int .u8),(.int .u8),(.int .u8),(.int .u8),(.int .u8),(.int .u8),(.int .u64),(.int .i64),(.int .u32),(.int .u16),(.int .u16),(.int .i64),(.int .i64),(.int .u16),(.int .u16),(.int .i64),(.int .i64),(.int .i64),(.int .i64),(.int .i64),(.int .i64),(.int .i64),(.int .i64),(.int .i64),(.int .i64),(.int .i64),(.int .i64),(.int .i64),.bool,.bool,.bool,.slc]))] (args0 #[x0]) (fun t => vc Tryz.prog (orcOf [([0,1,0,1,1,1,1],F19_1O),([0,1,0,1,1],F19_2O)]) [] F19_code (retQ Tryz.prog Tryz.f19 K) t w) := by kernel_rfl
theorem F19_ok {x0 : Value} {w : World} {K : Value -> World -> Prop} (h : F19 x0 w K) : Calls Tryz.prog 19 #[x0] w (rt K) := by
 rw [F19_step] at h
 exact Calls.mono (calls_of (c := F19_code) mixed Tryz.func19 rfl (nlt rfl) (vc_sound mixed (orcCons (π := [0,1,0,1,1,1,1]) F19_1_ok (orcCons (π := [0,1,0,1,1]) F19_2_ok (orcNil F19_code))) F19_code [] rfl F19_code_ok _ _ _ (rsh_out h))) fun _ _ => rv_none
noncomputable def F21_code : Code := Tryz.f21.body.getD .skip
theorem F21_code_ok : okC Tryz.prog Tryz.f21.ntmps F21_code = true := by kernel_rfl
def F21_1C (Kn : Value -> Value -> Value -> Value -> Value -> Value -> World -> Prop) (Kr : Value -> Value -> Value -> World -> Prop) : Post := fun o t w => match o with | .normal => Kn (t 0) (t 2) (t 5) (t 6) (t 7) (t 8) w | .exit _ => (False) | .ret => Kr (t 2) (t 3) (t 4) w
def F21_1 (Kn : Value -> Value -> Value -> Value -> Value -> Value -> World -> Prop) (Kr : Value -> Value -> Value -> World -> Prop) (x0 : Value) (x2 : Value) (x5 : Value) (x6 : Value) (x8 : Value) (x9 : Value) (w : World) : Prop :=
 rdS x0 fun s1 => rdA x2 fun a2 => rdA x5 fun a3 => rdI .i64 x6 fun n4 => rdI .i64 x8 fun n5 => rdI .i64 x9 fun n6 => br (n6 != 0) (stcL a2 0 (R60.mk 0 0 0 0 0 0 0 0 0 0 0 0 0 0 0 0 0 0 0 0 0 0 0 0 0 0 0 0 0 0 0 0 0 0 0 0 0 0 false false false 0 0 0 0 0 0 0 0 0 0 0 0 0 0 0 0 0 0 0 0 0 0 0 0 0 0 0 0 0 0 0 0 0 0 0 0 0 0 false false false none 0 0).l w fun w7 => Kr (.pointer (some a2)) (.int .i64 n4) (.int .i64 250) w7) (br (n5 == (ByteArray.size s1 : Int)) (stcL a2 0 (R60.mk 0 0 0 0 0 0 0 0 0 0 0 0 0 0 0 0 0 0 0 0 0 0 0 0 0 0 0 0 0 0 0 0 0 0 0 0 0 0 false false false 0 0 0 0 0 0 0 0 0 0 0 0 0 0 0 0 0 0 0 0 0 0 0 0 0 0 0 0 0 0 0 0 0 0 0 0 0 0 false false false none 0 0).l w fun w8 => Kr (.pointer (some a2)) (.int .i64 n4) (.int .i64 250) w8) (ldC (a3.add 82) w fun _ l9n _ => br (decide (((l9n : Int) : Int) > 65536)) (stcL a2 0 (R60.mk 0 0 0 0 0 0 0 0 0 0 0 0 0 0 0 0 0 0 0 0 0 0 0 0 0 0 0 0 0 0 0 0 0 0 0 0 0 0 false false false 0 0 0 0 0 0 0 0 0 0 0 0 0 0 0 0 0 0 0 0 0 0 0 0 0 0 0 0 0 0 0 0 0 0 0 0 0 0 false false false none 0 0).l w fun w10 => Kr (.pointer (some a2)) (.int .i64 n4) (.int .i64 250) w10) (Kn (.string s1) (.pointer (some a2)) (.pointer (some a3)) (.int .i64 (IntKind.wrap .i64 (n4 + 1))) (.int .i64 (IntKind.wrap .i64 (n5 + 1))) (.int .i64 n5) w)))
def F21_1O (Q : Post) (t : Tm) (w : World) : Prop := F21_1 (fun y0 y2 y5 y6 y7 y8 w => ∀ g,rsh [(0,(.one .str)),(2,(.one .adr)),(5,(.one .adr)),(6,(.one (.int .i64))),(7,(.one (.int .i64))),(8,(.one (.int .i64)))] (upds g [(0,y0),(2,y2),(5,y5),(6,y6),(7,y7),(8,y8)]) fun t => Q .normal t w) (fun y2 y3 y4 w => ∀ g,rsh [(2,(.one .adr)),(3,(.one (.int .i64))),(4,(.one (.int .i64)))] (upds g [(2,y2),(3,y3),(4,y4)]) fun t => Q .ret t w) (t 0) (t 2) (t 5) (t 6) (t 8) (t 9) w
theorem F21_1_step (Kn : Value -> Value -> Value -> Value -> Value -> Value -> World -> Prop) (Kr : Value -> Value -> Value -> World -> Prop) (t : Tm) (w : World) : (F21_1 Kn Kr (t 0) (t 2) (t 5) (t 6) (t 8) (t 9) w) = rsh [(0,(.one .str)),(2,(.one .adr)),(5,(.one .adr)),(6,(.one (.int .i64))),(8,(.one (.int .i64))),(9,(.one (.int .i64)))] t (fun t => vc Tryz.prog (orcOf []) [1,1,1,1,1,0,0,1,0,0,1,0,1,1,1,1] (getAt F21_code [1,1,1,1,1,0,0,1,0,0,1,0,1,1,1,1]) (F21_1C Kn Kr) t w) := by kernel_rfl
theorem F21_1_ok : ∀ Q t w,F21_1O Q t w -> W Tryz.prog Tryz.f21.ntmps (getAt F21_code [1,1,1,1,1,0,0,1,0,0,1,0,1,1,1,1]) Q t w := by
 intro Q t w h
 unfold F21_1O at h
 rw [F21_1_step] at h
 refine (vc_sound mixed (orcNil F21_code) _ _ rfl (okC_at F21_code_ok [1,1,1,1,1,0,0,1,0,0,1,0,1,1,1,1]) _ _ _ (rsh_out h)).mono ?_
 intro o t w q
 cases o with
 | normal => exact out_ok [0,2,5,6,7,8] q
 | exit i => exact q.elim
 | ret => exact out_ok [2,3,4] q
def F21_2C (Kn : Value -> Value -> Value -> Value -> Value -> Value -> World -> Prop) (Kr : Value -> Value -> Value -> World -> Prop) : Post := fun o t w => match o with | .normal => Kn (t 0) (t 2) (t 5) (t 6) (t 7) (t 8) w | .exit _ => (False) | .ret => Kr (t 2) (t 3) (t 4) w
def F21_2 (Kn : Value -> Value -> Value -> Value -> Value -> Value -> World -> Prop) (Kr : Value -> Value -> Value -> World -> Prop) (x0 : Value) (x2 : Value) (x5 : Value) (x6 : Value) (x7 : Value) (x8 : Value) (w : World) : Prop :=
 rdS x0 fun s1 => rdA x2 fun a2 => rdA x5 fun a3 => rdI .i64 x6 fun n4 => rdI .i64 x7 fun n5 => rdI .i64 x8 fun n6 => alc (.cells ((R26.mk 0 0 0 0 0 0 0 0 0 false none 0 0 ⟨#[]⟩)).c 27) w fun b7 w8 => br (decide ((n4 : Int) < 2)) (slT s1 (some (.int .i64 n5)) (some (.int .i64 n6)) fun s9 => Calls Tryz.prog 17 #[(.string s9)] w8 (en fun e11 w10 => exR49 fun s12 => ∃ n13,e11 = .returned (.tuple #[s12.v,(.int .i64 n13)]) /\ (ixA 41 2 (a3.add 0) n4 fun a14 => stcL a14 0 s12.l w10 fun w15 => F21_1 (fun y0_15 y2_15 y5_15 y6_15 y7_15 y8_15 w17 => ∀ _g18 : Tm,rdS y0_15 fun s19 => rdA y2_15 fun a20 => rdA y5_15 fun a21 => rdI .i64 y6_15 fun n22 => rdI .i64 y7_15 fun n23 => rdI .i64 y8_15 fun n24 => Kn (.string s19) (.pointer (some a20)) (.pointer (some a21)) (.int .i64 n22) (.int .i64 n23) (.int .i64 n24) w17) (fun y2_24 y3_24 y4_24 w26 => ∀ _g27 : Tm,rdA y2_24 fun a28 => rdI .i64 y3_24 fun n29 => rdI .i64 y4_24 fun n30 => Kr (.pointer (some a28)) (.int .i64 n29) (.int .i64 n30) w26) (.string s1) (.pointer (some a2)) (.pointer (some a3)) (.int .i64 n4) (.int .i64 n6) (.int .i64 n13) w15))) (slT s1 (some (.int .i64 n5)) (some (.int .i64 n6)) fun s31 => Calls Tryz.prog 11 #[(.string s31)] w8 (en fun e33 w32 => exR26 fun s34 => ∃ n35,e33 = .returned (.tuple #[s34.v,(.int .i64 n35)]) /\ (stcL (Addr.mk b7 0 none) 0 s34.l w32 fun w36 => ldC (a3.add 82) w36 fun l37a l37n l37c => ldR26 (Addr.mk b7 0 none) w36 fun s38 => alc (.cells s38.c 27) w36 fun b39 w40 => ∃ l41a l41n l41c w42,Sem.run Tryz.prog (Builtin.append_ #[59,59] 59 #[(.slice l37a l37n l37c),(.slice (some (Addr.mk b39 0 none)) 1 1)]) w40 = .ok (.slice l41a l41n l41c) w42 /\ (stc (a3.add 82) (.slice l41a l41n l41c) w42 fun w43 => F21_1 (fun y0_43 y2_43 y5_43 y6_43 y7_43 y8_43 w45 => ∀ _g46 : Tm,rdS y0_43 fun s47 => rdA y2_43 fun a48 => rdA y5_43 fun a49 => rdI .i64 y6_43 fun n50 => rdI .i64 y7_43 fun n51 => rdI .i64 y8_43 fun n52 => Kn (.string s47) (.pointer (some a48)) (.pointer (some a49)) (.int .i64 n50) (.int .i64 n51) (.int .i64 n52) w45) (fun y2_52 y3_52 y4_52 w54 => ∀ _g55 : Tm,rdA y2_52 fun a56 => rdI .i64 y3_52 fun n57 => rdI .i64 y4_52 fun n58 => Kr (.pointer (some a56)) (.int .i64 n57) (.int .i64 n58) w54) (.string s1) (.pointer (some a2)) (.pointer (some a3)) (.int .i64 n4) (.int .i64 n6) (.int .i64 n35) w43))))
def F21_2O (Q : Post) (t : Tm) (w : World) : Prop := F21_2 (fun y0 y2 y5 y6 y7 y8 w => ∀ g,rsh [(0,(.one .str)),(2,(.one .adr)),(5,(.one .adr)),(6,(.one (.int .i64))),(7,(.one (.int .i64))),(8,(.one (.int .i64)))] (upds g [(0,y0),(2,y2),(5,y5),(6,y6),(7,y7),(8,y8)]) fun t => Q .normal t w) (fun y2 y3 y4 w => ∀ g,rsh [(2,(.one .adr)),(3,(.one (.int .i64))),(4,(.one (.int .i64)))] (upds g [(2,y2),(3,y3),(4,y4)]) fun t => Q .ret t w) (t 0) (t 2) (t 5) (t 6) (t 7) (t 8) w
theorem F21_2_step (Kn : Value -> Value -> Value -> Value -> Value -> Value -> World -> Prop) (Kr : Value -> Value -> Value -> World -> Prop) (t : Tm) (w : World) : (F21_2 Kn Kr (t 0) (t 2) (t 5) (t 6) (t 7) (t 8) w) = rsh [(0,(.one .str)),(2,(.one .adr)),(5,(.one .adr)),(6,(.one (.int .i64))),(7,(.one (.int .i64))),(8,(.one (.int .i64)))] t (fun t => vc Tryz.prog (orcOf [([1,1,1,1,1,0,0,1,0,0,1,0,1,1,1,1],F21_1O)]) [1,1,0,0,1,0,0,1,0,1,1,1,1] (getAt F21_code [1,1,0,0,1,0,0,1,0,1,1,1,1]) (F21_2C Kn Kr) t w) := by kernel_rfl
theorem F21_2_ok : ∀ Q t w,F21_2O Q t w -> W Tryz.prog Tryz.f21.ntmps (getAt F21_code [1,1,0,0,1,0,0,1,0,1,1,1,1]) Q t w := by
 intro Q t w h
 unfold F21_2O at h
 rw [F21_2_step] at h
 refine (vc_sound mixed (orcCons (π := [1,1,1,1,1,0,0,1,0,0,1,0,1,1,1,1]) F21_1_ok (orcNil F21_code)) _ _ rfl (okC_at F21_code_ok [1,1,0,0,1,0,0,1,0,1,1,1,1]) _ _ _ (rsh_out h)).mono ?_
 intro o t w q
 cases o with
 | normal => exact out_ok [0,2,5,6,7,8] q
 | exit i => exact q.elim
 | ret => exact out_ok [2,3,4] q
def F21_3C (K0 : Value -> Value -> World -> Prop) (Kn : Value -> Value -> Value -> Value -> Value -> Value -> World -> Prop) (Kr : Value -> Value -> Value -> World -> Prop) : Post := fun o t w => match o with | .normal => Kn (t 0) (t 2) (t 5) (t 6) (t 7) (t 8) w | .exit i => (match Nat.beq i 0 with | true => K0 (t 2) (t 5) w | false => False) | .ret => Kr (t 2) (t 3) (t 4) w
def F21_3 (K0 : Value -> Value -> World -> Prop) (Kn : Value -> Value -> Value -> Value -> Value -> Value -> World -> Prop) (Kr : Value -> Value -> Value -> World -> Prop) (x0 : Value) (x2 : Value) (x5 : Value) (x6 : Value) (x7 : Value) (x8 : Value) (w : World) : Prop :=
 rdS x0 fun s1 => rdA x2 fun a2 => rdA x5 fun a3 => rdI .i64 x6 fun n4 => rdI .i64 x7 fun n5 => rdI .i64 x8 fun n6 => br (n6 == (ByteArray.size s1 : Int)) (br (n5 == n6) (br (decide ((n4 : Int) >= 2)) (K0 (.pointer (some a2)) (.pointer (some a3)) w) (F21_2 (fun y0_6 y2_6 y5_6 y6_6 y7_6 y8_6 w8 => ∀ _g9 : Tm,rdS y0_6 fun s10 => rdA y2_6 fun a11 => rdA y5_6 fun a12 => rdI .i64 y6_6 fun n13 => rdI .i64 y7_6 fun n14 => rdI .i64 y8_6 fun n15 => Kn (.string s10) (.pointer (some a11)) (.pointer (some a12)) (.int .i64 n13) (.int .i64 n14) (.int .i64 n15) w8) (fun y2_15 y3_15 y4_15 w17 => ∀ _g18 : Tm,rdA y2_15 fun a19 => rdI .i64 y3_15 fun n20 => rdI .i64 y4_15 fun n21 => Kr (.pointer (some a19)) (.int .i64 n20) (.int .i64 n21) w17) (.string s1) (.pointer (some a2)) (.pointer (some a3)) (.int .i64 n4) (.int .i64 n5) (.int .i64 n6) w)) (F21_2 (fun y0_21 y2_21 y5_21 y6_21 y7_21 y8_21 w23 => ∀ _g24 : Tm,rdS y0_21 fun s25 => rdA y2_21 fun a26 => rdA y5_21 fun a27 => rdI .i64 y6_21 fun n28 => rdI .i64 y7_21 fun n29 => rdI .i64 y8_21 fun n30 => Kn (.string s25) (.pointer (some a26)) (.pointer (some a27)) (.int .i64 n28) (.int .i64 n29) (.int .i64 n30) w23) (fun y2_30 y3_30 y4_30 w32 => ∀ _g33 : Tm,rdA y2_30 fun a34 => rdI .i64 y3_30 fun n35 => rdI .i64 y4_30 fun n36 => Kr (.pointer (some a34)) (.int .i64 n35) (.int .i64 n36) w32) (.string s1) (.pointer (some a2)) (.pointer (some a3)) (.int .i64 n4) (.int .i64 n5) (.int .i64 n6) w)) (F21_2 (fun y0_36 y2_36 y5_36 y6_36 y7_36 y8_36 w38 => ∀ _g39 : Tm,rdS y0_36 fun s40 => rdA y2_36 fun a41 => rdA y5_36 fun a42 => rdI .i64 y6_36 fun n43 => rdI .i64 y7_36 fun n44 => rdI .i64 y8_36 fun n45 => Kn (.string s40) (.pointer (some a41)) (.pointer (some a42)) (.int .i64 n43) (.int .i64 n44) (.int .i64 n45) w38) (fun y2_45 y3_45 y4_45 w47 => ∀ _g48 : Tm,rdA y2_45 fun a49 => rdI .i64 y3_45 fun n50 => rdI .i64 y4_45 fun n51 => Kr (.pointer (some a49)) (.int .i64 n50) (.int .i64 n51) w47) (.string s1) (.pointer (some a2)) (.pointer (some a3)) (.int .i64 n4) (.int .i64 n5) (.int .i64 n6) w)
def F21_3O (Q : Post) (t : Tm) (w : World) : Prop := F21_3 (fun y2 y5 w => ∀ g,rsh [(2,(.one .adr)),(5,(.one .adr))] (upds g [(2,y2),(5,y5)]) fun t => Q (.exit 0) t w) (fun y0 y2 y5 y6 y7 y8 w => ∀ g,rsh [(0,(.one .str)),(2,(.one .adr)),(5,(.one .adr)),(6,(.one (.int .i64))),(7,(.one (.int .i64))),(8,(.one (.int .i64)))] (upds g [(0,y0),(2,y2),(5,y5),(6,y6),(7,y7),(8,y8)]) fun t => Q .normal t w) (fun y2 y3 y4 w => ∀ g,rsh [(2,(.one .adr)),(3,(.one (.int .i64))),(4,(.one (.int .i64)))] (upds g [(2,y2),(3,y3),(4,y4)]) fun t => Q .ret t w) (t 0) (t 2) (t 5) (t 6) (t 7) (t 8) w
theorem F21_3_step (K0 : Value -> Value -> World -> Prop) (Kn : Value -> Value -> Value -> Value -> Value -> Value -> World -> Prop) (Kr : Value -> Value -> Value -> World -> Prop) (t : Tm) (w : World) : (F21_3 K0 Kn Kr (t 0) (t 2) (t 5) (t 6) (t 7) (t 8) w) = rsh [(0,(.one .str)),(2,(.one .adr)),(5,(.one .adr)),(6,(.one (.int .i64))),(7,(.one (.int .i64))),(8,(.one (.int .i64)))] t (fun t => vc Tryz.prog (orcOf [([1,1,1,1,1,0,0,1,0,0,1,0,1,1,1,1],F21_1O),([1,1,0,0,1,0,0,1,0,1,1,1,1],F21_2O)]) [1,0,0,1,0,0,1,0,1,1,1,1] (getAt F21_code [1,0,0,1,0,0,1,0,1,1,1,1]) (F21_3C K0 Kn Kr) t w) := by kernel_rfl
theorem F21_3_ok : ∀ Q t w,F21_3O Q t w -> W Tryz.prog Tryz.f21.ntmps (getAt F21_code [1,0,0,1,0,0,1,0,1,1,1,1]) Q t w := by
 intro Q t w h
 unfold F21_3O at h
 rw [F21_3_step] at h
 refine (vc_sound mixed (orcCons (π := [1,1,1,1,1,0,0,1,0,0,1,0,1,1,1,1]) F21_1_ok (orcCons (π := [1,1,0,0,1,0,0,1,0,1,1,1,1]) F21_2_ok (orcNil F21_code))) _ _ rfl (okC_at F21_code_ok [1,0,0,1,0,0,1,0,1,1,1,1]) _ _ _ (rsh_out h)).mono ?_
 intro o t w q
 cases o with
 | normal => exact out_ok [0,2,5,6,7,8] q
 | exit i =>
   unfold F21_3C at q
   simp only at q
   split at q
   ·rename_i hi
    rw [nbeq] at hi
    subst hi
    exact out_ok [2,5] q
   ·exact q.elim
 | ret => exact out_ok [2,3,4] q
def F21_4C (K0 : Value -> Value -> World -> Prop) (Kr : Value -> Value -> Value -> World -> Prop) : Post := fun o t w => match o with | .normal => False | .exit i => (match Nat.beq i 0 with | true => K0 (t 2) (t 5) w | false => False) | .ret => Kr (t 2) (t 3) (t 4) w
def F21_4B (R : Value -> Value -> Value -> Value -> Value -> Value -> World -> Prop) (K0 : Value -> Value -> World -> Prop) (Kr : Value -> Value -> Value -> World -> Prop) (x0 : Value) (x2 : Value) (x5 : Value) (x6 : Value) (x7 : Value) (x8 : Value) (w : World) : Prop :=
 rdS x0 fun s1 => rdA x2 fun a2 => rdA x5 fun a3 => rdI .i64 x6 fun n4 => rdI .i64 x7 fun n5 => rdI .i64 x8 fun n6 => br (decide ((n6 : Int) <= (ByteArray.size s1 : Int))) (br (decide ((n6 : Int) < (ByteArray.size s1 : Int))) (ixT s1 n6 fun n7 => br (n7 != 10) (R (.string s1) (.pointer (some a2)) (.pointer (some a3)) (.int .i64 n4) (.int .i64 n5) (.int .i64 (IntKind.wrap .i64 (n6 + 1))) w) (F21_3 (fun y2_7 y5_7 w9 => ∀ _g10 : Tm,rdA y2_7 fun a11 => rdA y5_7 fun a12 => K0 (.pointer (some a11)) (.pointer (some a12)) w9) (fun y0_12 y2_12 y5_12 y6_12 y7_12 y8_12 w14 => ∀ _g15 : Tm,rdS y0_12 fun s16 => rdA y2_12 fun a17 => rdA y5_12 fun a18 => rdI .i64 y6_12 fun n19 => rdI .i64 y7_12 fun n20 => rdI .i64 y8_12 fun n21 => R (.string s16) (.pointer (some a17)) (.pointer (some a18)) (.int .i64 n19) (.int .i64 n20) (.int .i64 (IntKind.wrap .i64 (n21 + 1))) w14) (fun y2_21 y3_21 y4_21 w23 => ∀ _g24 : Tm,rdA y2_21 fun a25 => rdI .i64 y3_21 fun n26 => rdI .i64 y4_21 fun n27 => Kr (.pointer (some a25)) (.int .i64 n26) (.int .i64 n27) w23) (.string s1) (.pointer (some a2)) (.pointer (some a3)) (.int .i64 n4) (.int .i64 n5) (.int .i64 n6) w)) (F21_3 (fun y2_27 y5_27 w29 => ∀ _g30 : Tm,rdA y2_27 fun a31 => rdA y5_27 fun a32 => K0 (.pointer (some a31)) (.pointer (some a32)) w29) (fun y0_32 y2_32 y5_32 y6_32 y7_32 y8_32 w34 => ∀ _g35 : Tm,rdS y0_32 fun s36 => rdA y2_32 fun a37 => rdA y5_32 fun a38 => rdI .i64 y6_32 fun n39 => rdI .i64 y7_32 fun n40 => rdI .i64 y8_32 fun n41 => R (.string s36) (.pointer (some a37)) (.pointer (some a38)) (.int .i64 n39) (.int .i64 n40) (.int .i64 (IntKind.wrap .i64 (n41 + 1))) w34) (fun y2_41 y3_41 y4_41 w43 => ∀ _g44 : Tm,rdA y2_41 fun a45 => rdI .i64 y3_41 fun n46 => rdI .i64 y4_41 fun n47 => Kr (.pointer (some a45)) (.int .i64 n46) (.int .i64 n47) w43) (.string s1) (.pointer (some a2)) (.pointer (some a3)) (.int .i64 n4) (.int .i64 n5) (.int .i64 n6) w)) (K0 (.pointer (some a2)) (.pointer (some a3)) w)
def F21_4 (K0 : Value -> Value -> World -> Prop) (Kr : Value -> Value -> Value -> World -> Prop) : Nat -> Value -> Value -> Value -> Value -> Value -> Value -> World -> Prop
 | 0 => fun _ _ _ _ _ _ _ => False
 | n + 1 => F21_4B (F21_4 K0 Kr n) K0 Kr
def F21_4O (Q : Post) (t : Tm) (w : World) : Prop := ∃ n,F21_4 (fun y2 y5 w => ∀ g,rsh [(2,(.one .adr)),(5,(.one .adr))] (upds g [(2,y2),(5,y5)]) fun t => Q (.exit 0) t w) (fun y2 y3 y4 w => ∀ g,rsh [(2,(.one .adr)),(3,(.one (.int .i64))),(4,(.one (.int .i64)))] (upds g [(2,y2),(3,y3),(4,y4)]) fun t => Q .ret t w) n (t 0) (t 2) (t 5) (t 6) (t 7) (t 8) w
theorem F21_4_step (K0 : Value -> Value -> World -> Prop) (Kr : Value -> Value -> Value -> World -> Prop) (n : Nat) (t : Tm) (w : World) : (F21_4 K0 Kr (n + 1) (t 0) (t 2) (t 5) (t 6) (t 7) (t 8) w) = rsh [(0,(.one .str)),(2,(.one .adr)),(5,(.one .adr)),(6,(.one (.int .i64))),(7,(.one (.int .i64))),(8,(.one (.int .i64)))] t (fun t => vc Tryz.prog (orcOf [([1,1,1,1,1,0,0,1,0,0,1,0,1,1,1,1],F21_1O),([1,1,0,0,1,0,0,1,0,1,1,1,1],F21_2O),([1,0,0,1,0,0,1,0,1,1,1,1],F21_3O)]) [0,0,1,0,1,1,1,1] (getAt F21_code [0,0,1,0,1,1,1,1]) (fun o t w => match o with | .normal => F21_4 K0 Kr n (t 0) (t 2) (t 5) (t 6) (t 7) (t 8) w | .exit i => F21_4C K0 Kr (.exit i) t w | .ret => F21_4C K0 Kr .ret t w) t w) := by kernel_rfl
theorem F21_4_ok : ∀ Q t w,F21_4O Q t w -> W Tryz.prog Tryz.f21.ntmps (getAt F21_code [0,1,0,1,1,1,1]) Q t w := by
 intro Q t w ⟨n,h⟩
 refine (W_loop (P := Tryz.prog) (b := getAt F21_code [0,0,1,0,1,1,1,1]) (Q := F21_4C (fun y2 y5 w => ∀ g,rsh [(2,(.one .adr)),(5,(.one .adr))] (upds g [(2,y2),(5,y5)]) fun t => Q (.exit 0) t w) (fun y2 y3 y4 w => ∀ g,rsh [(2,(.one .adr)),(3,(.one (.int .i64))),(4,(.one (.int .i64)))] (upds g [(2,y2),(3,y3),(4,y4)]) fun t => Q .ret t w)) (G := fun n t w => F21_4 (fun y2 y5 w => ∀ g,rsh [(2,(.one .adr)),(5,(.one .adr))] (upds g [(2,y2),(5,y5)]) fun t => Q (.exit 0) t w) (fun y2 y3 y4 w => ∀ g,rsh [(2,(.one .adr)),(3,(.one (.int .i64))),(4,(.one (.int .i64)))] (upds g [(2,y2),(3,y3),(4,y4)]) fun t => Q .ret t w) n (t 0) (t 2) (t 5) (t 6) (t 7) (t 8) w) (fun _ _ h => h) (fun n t w h => ?_) n t w h).mono ?_
 ·rw [F21_4_step] at h
  exact vc_sound mixed (orcCons (π := [1,1,1,1,1,0,0,1,0,0,1,0,1,1,1,1]) F21_1_ok (orcCons (π := [1,1,0,0,1,0,0,1,0,1,1,1,1]) F21_2_ok (orcCons (π := [1,0,0,1,0,0,1,0,1,1,1,1]) F21_3_ok (orcNil F21_code)))) _ _ rfl (okC_at F21_code_ok [0,0,1,0,1,1,1,1]) _ _ _ (rsh_out h)
 ·intro o t w q
  cases o with
  | normal => exact q.elim
  | exit i =>
   unfold F21_4C at q
   simp only at q
   split at q
   ·rename_i hi
    rw [nbeq] at hi
    subst hi
    exact out_ok [2,5] q
   ·exact q.elim
  | ret => exact out_ok [2,3,4] q
def F21 (x0 : Value) (w : World) (K : Value -> World -> Prop) : Prop :=
 rdS x0 fun s1 => alc (.cells ((R60.mk 0 0 0 0 0 0 0 0 0 0 0 0 0 0 0 0 0 0 0 0 0 0 0 0 0 0 0 0 0 0 0 0 0 0 0 0 0 0 false false false 0 0 0 0 0 0 0 0 0 0 0 0 0 0 0 0 0 0 0 0 0 0 0 0 0 0 0 0 0 0 0 0 0 0 0 0 0 0 false false false none 0 0)).c 61) w fun b2 w3 => br (decide (((ByteArray.size s1 : Int) : Int) > 4194304)) (stcL (Addr.mk b2 0 none) 0 (R60.mk 0 0 0 0 0 0 0 0 0 0 0 0 0 0 0 0 0 0 0 0 0 0 0 0 0 0 0 0 0 0 0 0 0 0 0 0 0 0 false false false 0 0 0 0 0 0 0 0 0 0 0 0 0 0 0 0 0 0 0 0 0 0 0 0 0 0 0 0 0 0 0 0 0 0 0 0 0 0 false false false none 0 0).l w3 fun w4 => ldR60 (Addr.mk b2 0 none) w4 fun s5 => K (.tuple #[s5.v,(.int .i64 0),(.int .i64 2)]) w4) (alc (.cells ((R60.mk 0 0 0 0 0 0 0 0 0 0 0 0 0 0 0 0 0 0 0 0 0 0 0 0 0 0 0 0 0 0 0 0 0 0 0 0 0 0 false false false 0 0 0 0 0 0 0 0 0 0 0 0 0 0 0 0 0 0 0 0 0 0 0 0 0 0 0 0 0 0 0 0 0 0 0 0 0 0 false false false none 0 0)).c 61) w3 fun b6 w7 => stcL (Addr.mk b6 0 none) 0 (R60.mk 0 0 0 0 0 0 0 0 0 0 0 0 0 0 0 0 0 0 0 0 0 0 0 0 0 0 0 0 0 0 0 0 0 0 0 0 0 0 false false false 0 0 0 0 0 0 0 0 0 0 0 0 0 0 0 0 0 0 0 0 0 0 0 0 0 0 0 0 0 0 0 0 0 0 0 0 0 0 false false false none 0 0).l w7 fun w8 => ∃ k24 : Nat,F21_4 (fun y2_8 y5_8 w10 => ∀ _g11 : Tm,rdA y2_8 fun a12 => rdA y5_8 fun a13 => ldR60 a13 w10 fun s14 => stcL a12 0 s14.l w10 fun w15 => ldR60 a12 w15 fun s16 => K (.tuple #[s16.v,(.int .i64 0),(.int .i64 0)]) w15) (fun y2_16 y3_16 y4_16 w18 => ∀ _g19 : Tm,rdA y2_16 fun a20 => rdI .i64 y3_16 fun n21 => rdI .i64 y4_16 fun n22 => ldR60 a20 w18 fun s23 => K (.tuple #[s23.v,(.int .i64 n21),(.int .i64 n22)]) w18) k24 (.string s1) (.pointer (some (Addr.mk b2 0 none))) (.pointer (some (Addr.mk b6 0 none))) (.int .i64 0) (.int .i64 0) (.int .i64 0) w8)
theorem F21_step (x0 : Value) (w : World) (K : Value -> World -> Prop) : (F21 x0 w K) = rsh [(0,(.one .str))] (args0 #[x0]) (fun t => vc Tryz.prog (orcOf [([1,1,1,1,1,0,0,1,0,0,1,0,1,1,1,1],F21_1O),([1,1,0,0,1,0,0,1,0,1,1,1,1],F21_2O),([1,0,0,1,0,0,1,0,1,1,1,1],F21_3O),([0,1,0,1,1,1,1],F21_4O)]) [] F21_code (retQ Tryz.prog Tryz.f21 K) t w) := by kernel_rfl
theorem F21_ok {x0 : Value} {w : World} {K : Value -> World -> Prop} (h : F21 x0 w K) : Calls Tryz.prog 21 #[x0] w (rt K) := by
 rw [F21_step] at h
 exact Calls.mono (calls_of (c := F21_code) mixed Tryz.func21 rfl (nlt rfl) (vc_sound mixed (orcCons (π := [1,1,1,1,1,0,0,1,0,0,1,0,1,1,1,1]) F21_1_ok (orcCons (π := [1,1,0,0,1,0,0,1,0,1,1,1,1]) F21_2_ok (orcCons (π := [1,0,0,1,0,0,1,0,1,1,1,1]) F21_3_ok (orcCons (π := [0,1,0,1,1,1,1]) F21_4_ok (orcNil F21_code))))) F21_code [] rfl F21_code_ok _ _ _ (rsh_out h))) fun _ _ => rv_none
noncomputable def F22_code : Code := Tryz.f22.body.getD .skip
theorem F22_code_ok : okC Tryz.prog Tryz.f22.ntmps F22_code = true := by kernel_rfl
def F22_1C (K0 : World -> Prop) (Kr : Value -> World -> Prop) : Post := fun o t w => match o with | .normal => False | .exit i => (match Nat.beq i 0 with | true => K0  w | false => False) | .ret => Kr (t 4) w
def F22_1B (R : Value -> Value -> Value -> World -> Prop) (K0 : World -> Prop) (Kr : Value -> World -> Prop) (x2 : Value) (x3 : Value) (x5 : Value) (w : World) : Prop :=
 rdA x2 fun a1 => rdA x3 fun a2 => rdI .i64 x5 fun n3 => ldC (a1.add 82) w fun _ l4n _ => br (decide ((n3 : Int) < (l4n : Int))) (drw w fun w5 => ldC (a1.add 82) w5 fun l6a l6n _ => ixS 12 l6a l6n n3 fun a7 => ldR26 a7 w5 fun s8 => ldC (a2.add 82) w5 fun l9a l9n _ => ixS 12 l9a l9n n3 fun a10 => ldR26 a10 w5 fun s11 => Calls Tryz.prog 12 #[s8.v,s11.v] w5 (en fun e13 w12 => ∃ b14,e13 = .returned (.bool b14) /\ (br (!b14) (Kr (.bool false) w12) (R (.pointer (some a1)) (.pointer (some a2)) (.int .i64 (IntKind.wrap .i64 (n3 + 1))) w12)))) (K0 w)
def F22_1 (K0 : World -> Prop) (Kr : Value -> World -> Prop) : Nat -> Value -> Value -> Value -> World -> Prop
 | 0 => fun _ _ _ _ => False
 | n + 1 => F22_1B (F22_1 K0 Kr n) K0 Kr
def F22_1O (Q : Post) (t : Tm) (w : World) : Prop := ∃ n,F22_1 (fun w => ∀ g,rsh [] (upds g []) fun t => Q (.exit 0) t w) (fun y4 w => ∀ g,rsh [(4,(.one .bool))] (upds g [(4,y4)]) fun t => Q .ret t w) n (t 2) (t 3) (t 5) w
theorem F22_1_step (K0 : World -> Prop) (Kr : Value -> World -> Prop) (n : Nat) (t : Tm) (w : World) : (F22_1 K0 Kr (n + 1) (t 2) (t 3) (t 5) w) = rsh [(2,(.one .adr)),(3,(.one .adr)),(5,(.one (.int .i64)))] t (fun t => vc Tryz.prog (orcOf []) [0,0,1,0,1,1] (getAt F22_code [0,0,1,0,1,1]) (fun o t w => match o with | .normal => F22_1 K0 Kr n (t 2) (t 3) (t 5) w | .exit i => F22_1C K0 Kr (.exit i) t w | .ret => F22_1C K0 Kr .ret t w) t w) := by kernel_rfl
theorem F22_1_ok : ∀ Q t w,F22_1O Q t w -> W Tryz.prog Tryz.f22.ntmps (getAt F22_code [0,1,0,1,1]) Q t w := by
 intro Q t w ⟨n,h⟩
 refine (W_loop (P := Tryz.prog) (b := getAt F22_code [0,0,1,0,1,1]) (Q := F22_1C (fun w => ∀ g,rsh [] (upds g []) fun t => Q (.exit 0) t w) (fun y4 w => ∀ g,rsh [(4,(.one .bool))] (upds g [(4,y4)]) fun t => Q .ret t w)) (G := fun n t w => F22_1 (fun w => ∀ g,rsh [] (upds g []) fun t => Q (.exit 0) t w) (fun y4 w => ∀ g,rsh [(4,(.one .bool))] (upds g [(4,y4)]) fun t => Q .ret t w) n (t 2) (t 3) (t 5) w) (fun _ _ h => h) (fun n t w h => ?_) n t w h).mono ?_
 ·rw [F22_1_step] at h
  exact vc_sound mixed (orcNil F22_code) _ _ rfl (okC_at F22_code_ok [0,0,1,0,1,1]) _ _ _ (rsh_out h)
 ·intro o t w q
  cases o with
  | normal => exact q.elim
  | exit i =>
   unfold F22_1C at q
   simp only at q
   split at q
   ·rename_i hi
    rw [nbeq] at hi
    subst hi
    exact out_ok [] q
   ·exact q.elim
  | ret => exact out_ok [4] q
def F22_2C (Kr : Value -> World -> Prop) : Post := fun o t w => match o with | .normal => False | .exit _ => (False) | .ret => Kr (t 4) w
def F22_2 (Kr : Value -> World -> Prop) (x2 : Value) (x3 : Value) (w : World) : Prop :=
 rdA x2 fun a1 => rdA x3 fun a2 => ∃ k10 : Nat,F22_1 (fun w4 => ∀ _g5 : Tm,Kr (.bool true) w4) (fun y4_5 w7 => ∀ _g8 : Tm,rdB y4_5 fun b9 => Kr (.bool b9) w7) k10 (.pointer (some a1)) (.pointer (some a2)) (.int .i64 0) w
def F22_2O (Q : Post) (t : Tm) (w : World) : Prop := F22_2 (fun y4 w => ∀ g,rsh [(4,(.one .bool))] (upds g [(4,y4)]) fun t => Q .ret t w) (t 2) (t 3) w
theorem F22_2_step (Kr : Value -> World -> Prop) (t : Tm) (w : World) : (F22_2 Kr (t 2) (t 3) w) = rsh [(2,(.one .adr)),(3,(.one .adr))] t (fun t => vc Tryz.prog (orcOf [([0,1,0,1,1],F22_1O)]) [1,1] (getAt F22_code [1,1]) (F22_2C Kr) t w) := by kernel_rfl
theorem F22_2_ok : ∀ Q t w,F22_2O Q t w -> W Tryz.prog Tryz.f22.ntmps (getAt F22_code [1,1]) Q t w := by
 intro Q t w h
 unfold F22_2O at h
 rw [F22_2_step] at h
 refine (vc_sound mixed (orcCons (π := [0,1,0,1,1]) F22_1_ok (orcNil F22_code)) _ _ rfl (okC_at F22_code_ok [1,1]) _ _ _ (rsh_out h)).mono ?_
 intro o t w q
 cases o with
 | normal => exact q.elim
 | exit i => exact q.elim
 | ret => exact out_ok [4] q
def F22 (x0 : Value) (x1 : Value) (w : World) (K : Value -> World -> Prop) : Prop :=
 exR60 fun s1 => x0 = s1.v /\ (exR60 fun s2 => x1 = s2.v /\ (alc (.cells s1.c 61) w fun b3 w4 => alc (.cells s2.c 61) w4 fun b5 w6 => ixA 41 2 ((Addr.mk b3 0 none).add 0) 0 fun a7 => ldR49 a7 w6 fun s8 => ixA 41 2 ((Addr.mk b5 0 none).add 0) 0 fun a9 => ldR49 a9 w6 fun s10 => ∃ b11,∃ w12,Sem.run Tryz.prog (binF Tryz.prog .neq 50 (.tmp 8) (.tmp 11) s8.v s10.v) w6 = .ok (.bool b11) w12 /\ (br b11 (K (.bool false) w12) (ixA 41 2 ((Addr.mk b3 0 none).add 0) 1 fun a13 => ldR49 a13 w12 fun s14 => ixA 41 2 ((Addr.mk b5 0 none).add 0) 1 fun a15 => ldR49 a15 w12 fun s16 => ∃ b17,∃ w18,Sem.run Tryz.prog (binF Tryz.prog .neq 50 (.tmp 16) (.tmp 19) s14.v s16.v) w12 = .ok (.bool b17) w18 /\ (br b17 (K (.bool false) w18) (ldC ((Addr.mk b3 0 none).add 82) w18 fun _ l19n _ => ldC ((Addr.mk b5 0 none).add 82) w18 fun _ l20n _ => br ((l19n : Int) != (l20n : Int)) (K (.bool false) w18) (F22_2 (fun y4_20 w22 => ∀ _g23 : Tm,rdB y4_20 fun b24 => K (.bool b24) w22) (.pointer (some (Addr.mk b3 0 none))) (.pointer (some (Addr.mk b5 0 none))) w18)))))))
theorem F22_step (x0 : Value) (x1 : Value) (w : World) (K : Value -> World -> Prop) : (F22 x0 x1 w K) = rsh [(0,(.agg [(.int .u8),(.int .u8),(.int .u8),(.int .u8),(.int .u8),(.int .u8),(.int .u8),(.int .u8),(.int .u8),(.int .u8),(.int .u8),(.int .u8),(.int .u8),(.int .u8),(.int .u8),(.int .u8),(.int .u64),(.int .i64),(.int .u32),(.int .u16),(.int .u16),(.int .i64),(.int .i64),(.int .u16),(.int .u16),(.int .i64),(.int .i64),(.int .i64),(.int .i64),(.int .i64),(.int .i64),(.int .i64),(.int .i64),(.int .i64),(.int .i64),(.int .i64),(.int .i64),(.int .i64),.bool,.bool,.bool,(.int .u8),(.int .u8),(.int .u8),(.int .u8),(.int .u8),(.int .u8),(.int .u8),(.int .u8),(.int .u8),(.int .u8),(.int .u8),(.int .u8),(.int .u8),(.int .u8),(.int .u8),(.int .u8),(.int .u64),(.int .i64),(.int .u32),(.int .u16),(.int .u16),(.int .i64),(.int .i64),(.int .u16),(.int .u16),(.int .i64),(.int .i64),(.int .i64),(.int .i64),(.int .i64),(.int .i64),(.int .i64),(.int .i64),(.int .i64),(.int .i64),(.int .i64),(.int .i64),(.int .i64),.bool,.bool,.bool,.slc])),(1,(.agg [(.int .u8),(.int .u8),(.int .u8),(.int .u8),(.int .u8),(.int .u8),(.int .u8),(.int .u8),(.int .u8),(.int .u8),(.int .u8),(.int .u8),(.int .u8),(.int .u8),(.int .u8),(.int .u8),(.int .u64),(.int .i64),(.int .u32),(.int .u16),(.int .u16),(.int .i64),(.int .i64),(.int .u16),(.int .u16),(.int .i64),(.int .i64),(.int .i64),(.int .i64),(.int .i64),(.int .i64),(.int .i64),(.int .i64),(.int .i64),(.int .i64),(.int .i64),(.int .i64),(.int .i64),.bool,.bool,.bool,(.int .u8),(.int .u8),(.int .u8),(.int .u8),(.int .u8),(.int .u8),(.int .u8),(.int .u8),(.int .u8),(.int .u8),(.int .u8),(.int .u8),(.int .u8),(.int .u8),(.int .u8),(.int .u8),(.int .u64),(.int .i64),(.int .u32),(.int .u16),(.int .u16),(.int .i64),(.int .i64),(.int .u16),(.int .u16),(.int .i64),(.int .i64),(.int .i64),(.int .i64),(.int .i64),(.int .i64),(.int .i64),(.int .i64),(.int .i64),(.int .i64),(.int .i64),(.int .i64),(.int .i64),.bool,.bool,.bool,.slc]))] (args0 #[x0,x1]) (fun t => vc Tryz.prog (orcOf [([0,1,0,1,1],F22_1O),([1,1],F22_2O)]) [] F22_code (retQ Tryz.prog Tryz.f22 K) t w) := by kernel_rfl
theorem F22_ok {x0 x1 : Value} {w : World} {K : Value -> World -> Prop} (h : F22 x0 x1 w K) : Calls Tryz.prog 22 #[x0,x1] w (rt K) := by
 rw [F22_step] at h
 exact Calls.mono (calls_of (c := F22_code) mixed Tryz.func22 rfl (nlt rfl) (vc_sound mixed (orcCons (π := [0,1,0,1,1]) F22_1_ok (orcCons (π := [1,1]) F22_2_ok (orcNil F22_code))) F22_code [] rfl F22_code_ok _ _ _ (rsh_out h))) fun _ _ => rv_none
end Go.Proofs.YtilenpnpnbdndaaGreatDoor
