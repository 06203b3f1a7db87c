/- Own text: part of the shallow reading of the code and of the contracts that are proved over it. -/
import Derived.Test.YtilenpnpnbdndaaGreatDoorShR
import Derived.KernelRfl
namespace Go.Proofs.YtilenpnpnbdndaaGreatDoor
open Go Go.Sh
set_option maxRecDepth 100000
set_option maxHeartbeats 4000000
attribute [local instance] Esc.none
noncomputable def F18_code : Code := Tryz.f18.body.getD .skip
theorem F18_code_ok : okC Tryz.prog Tryz.f18.ntmps F18_code = true := by kernel_rfl
def F18_1C (K2 : Value -> World -> Prop) (Kr : Value -> Value -> Value -> World -> Prop) : Post := fun o t w => match o with | .normal => False | .exit i => (match Nat.beq i 2 with | true => K2 (t 5) w | false => False) | .ret => Kr (t 2) (t 3) (t 4) w
def F18_1B (R : Value -> Value -> Value -> Value -> World -> Prop) (K2 : Value -> World -> Prop) (Kr : Value -> Value -> Value -> World -> Prop) (x5 : Value) (x38 : Value) (x39 : Value) (x40 : Value) (w : World) : Prop :=
 rdC x5 fun l1a l1n l1c => rdC x38 fun l2a l2n l2c => rdI .i64 x39 fun n3 => rdI .i64 x40 fun n4 => br (decide ((n4 : Int) < n3)) (ixS 12 l2a l2n n4 fun a5 => ldR26 a5 w fun s6 => alc (.cells ((R26.mk 0 0 0 0 0 0 0 0 0 false none 0 0 ⟨#[]⟩)).c 27) w fun b7 w8 => stcL (Addr.mk b7 0 none) 0 s6.l w8 fun w9 => ldR26 (Addr.mk b7 0 none) w9 fun s10 => Calls Tryz.prog 8 #[s10.v] w9 (en fun e12 w11 => ∃ s13,∃ n14,e12 = .returned (.tuple #[(.string s13),(.int .i64 n14)]) /\ (br (n14 != 0) (Kr (.string ⟨#[]⟩) (.int .i64 n4) (.int .i64 n14) w11) (br (decide (((l1n : Int) : Int) <= 4194304)) (∃ l15a l15n l15c w16,Sem.run Tryz.prog (Builtin.append_ #[25,9] 25 #[(.slice l1a l1n l1c),(.string s13)]) w11 = .ok (.slice l15a l15n l15c) w16 /\ (alc (.cells #[(.int .u8 10)] 5) w16 fun b17 w18 => ∃ l19a l19n l19c w20,Sem.run Tryz.prog (Builtin.append_ #[25,25] 25 #[(.slice l15a l15n l15c),(.slice (some (Addr.mk b17 0 none)) 1 1)]) w18 = .ok (.slice l19a l19n l19c) w20 /\ (R (.slice l19a l19n l19c) (.slice l2a l2n l2c) (.int .i64 n3) (.int .i64 (IntKind.wrap .i64 (n4 + 1))) w20))) (R (.slice l1a l1n l1c) (.slice l2a l2n l2c) (.int .i64 n3) (.int .i64 (IntKind.wrap .i64 (n4 + 1))) w11))))) (K2 (.slice l1a l1n l1c) w)
def F18_1 (K2 : Value -> World -> Prop) (Kr : Value -> Value -> Value -> World -> Prop) : Nat -> Value -> Value -> Value -> Value -> World -> Prop
 | 0 => fun _ _ _ _ _ => False
 | n + 1 => F18_1B (F18_1 K2 Kr n) K2 Kr
def F18_1O (Q : Post) (t : Tm) (w : World) : Prop := ∃ n,F18_1 (fun y5 w => ∀ g,rsh [(5,(.one .slc))] (upds g [(5,y5)]) fun t => Q (.exit 2) t w) (fun y2 y3 y4 w => ∀ g,rsh [(2,(.one .str)),(3,(.one (.int .i64))),(4,(.one (.int .i64)))] (upds g [(2,y2),(3,y3),(4,y4)]) fun t => Q .ret t w) n (t 5) (t 38) (t 39) (t 40) w
theorem F18_1_step (K2 : Value -> World -> Prop) (Kr : Value -> Value -> Value -> World -> Prop) (n : Nat) (t : Tm) (w : World) : (F18_1 K2 Kr (n + 1) (t 5) (t 38) (t 39) (t 40) w) = rsh [(5,(.one .slc)),(38,(.one .slc)),(39,(.one (.int .i64))),(40,(.one (.int .i64)))] t (fun t => vc Tryz.prog (orcOf []) [0,0,1,0,1,1,1,1] (getAt F18_code [0,0,1,0,1,1,1,1]) (fun o t w => match o with | .normal => F18_1 K2 Kr n (t 5) (t 38) (t 39) (t 40) w | .exit i => F18_1C K2 Kr (.exit i) t w | .ret => F18_1C K2 Kr .ret t w) t w) := by kernel_rfl
theorem F18_1_ok : ∀ Q t w,F18_1O Q t w -> W Tryz.prog Tryz.f18.ntmps (getAt F18_code [0,1,0,1,1,1,1]) Q t w := by
 intro Q t w ⟨n,h⟩
 refine (W_loop (P := Tryz.prog) (b := getAt F18_code [0,0,1,0,1,1,1,1]) (Q := F18_1C (fun y5 w => ∀ g,rsh [(5,(.one .slc))] (upds g [(5,y5)]) fun t => Q (.exit 2) t w) (fun y2 y3 y4 w => ∀ g,rsh [(2,(.one .str)),(3,(.one (.int .i64))),(4,(.one (.int .i64)))] (upds g [(2,y2),(3,y3),(4,y4)]) fun t => Q .ret t w)) (G := fun n t w => F18_1 (fun y5 w => ∀ g,rsh [(5,(.one .slc))] (upds g [(5,y5)]) fun t => Q (.exit 2) t w) (fun y2 y3 y4 w => ∀ g,rsh [(2,(.one .str)),(3,(.one (.int .i64))),(4,(.one (.int .i64)))] (upds g [(2,y2),(3,y3),(4,y4)]) fun t => Q .ret t w) n (t 5) (t 38) (t 39) (t 40) w) (fun _ _ h => h) (fun n t w h => ?_) n t w h).mono ?_
 ·rw [F18_1_step] at h
  exact vc_sound mixed (orcNil F18_code) _ _ rfl (okC_at F18_code_ok [0,0,1,0,1,1,1,1]) _ _ _ (rsh_out h)
 ·intro o t w q
  cases o with
  | normal => exact q.elim
  | exit i =>
   unfold F18_1C at q
   simp only at q
   split at q
   ·rename_i hi
    rw [nbeq] at hi
    subst hi
    exact out_ok [5] q
   ·exact q.elim
  | ret => exact out_ok [2,3,4] q
def F18_2C (K0 : Value -> Value -> World -> Prop) (Kr : Value -> Value -> Value -> World -> Prop) : Post := fun o t w => match o with | .normal => False | .exit i => (match Nat.beq i 0 with | true => K0 (t 1) (t 5) w | false => False) | .ret => Kr (t 2) (t 3) (t 4) w
def F18_2B (R : Value -> Value -> Value -> Value -> World -> Prop) (K0 : Value -> Value -> World -> Prop) (Kr : Value -> Value -> Value -> World -> Prop) (x1 : Value) (x5 : Value) (x15 : Value) (x16 : Value) (w : World) : Prop :=
 rdA x1 fun a1 => rdC x5 fun l2a l2n l2c => exR58 fun s3 => x15 = s3.v /\ (rdI .i64 x16 fun n4 => br (decide ((n4 : Int) < 2)) ((0 <= n4 /\ n4 < ((2 : Nat) : Int)) /\ (exR49 fun s5 => partV Tryz.prog 50 #[(.int .u8 s3.f0),(.int .u8 s3.f1),(.int .u8 s3.f2),(.int .u8 s3.f3),(.int .u8 s3.f4),(.int .u8 s3.f5),(.int .u8 s3.f6),(.int .u8 s3.f7),(.int .u8 s3.f8),(.int .u8 s3.f9),(.int .u8 s3.f10),(.int .u8 s3.f11),(.int .u8 s3.f12),(.int .u8 s3.f13),(.int .u8 s3.f14),(.int .u8 s3.f15),(.int .u64 s3.f16),(.int .i64 s3.f17),(.int .u32 s3.f18),(.int .u16 s3.f19),(.int .u16 s3.f20),(.int .i64 s3.f21),(.int .i64 s3.f22),(.int .u16 s3.f23),(.int .u16 s3.f24),(.int .i64 s3.f25),(.int .i64 s3.f26),(.int .i64 s3.f27),(.int .i64 s3.f28),(.int .i64 s3.f29),(.int .i64 s3.f30),(.int .i64 s3.f31),(.int .i64 s3.f32),(.int .i64 s3.f33),(.int .i64 s3.f34),(.int .i64 s3.f35),(.int .i64 s3.f36),(.int .i64 s3.f37),(.bool s3.f38),(.bool s3.f39),(.bool s3.f40),(.int .u8 s3.f41),(.int .u8 s3.f42),(.int .u8 s3.f43),(.int .u8 s3.f44),(.int .u8 s3.f45),(.int .u8 s3.f46),(.int .u8 s3.f47),(.int .u8 s3.f48),(.int .u8 s3.f49),(.int .u8 s3.f50),(.int .u8 s3.f51),(.int .u8 s3.f52),(.int .u8 s3.f53),(.int .u8 s3.f54),(.int .u8 s3.f55),(.int .u8 s3.f56),(.int .u64 s3.f57),(.int .i64 s3.f58),(.int .u32 s3.f59),(.int .u16 s3.f60),(.int .u16 s3.f61),(.int .i64 s3.f62),(.int .i64 s3.f63),(.int .u16 s3.f64),(.int .u16 s3.f65),(.int .i64 s3.f66),(.int .i64 s3.f67),(.int .i64 s3.f68),(.int .i64 s3.f69),(.int .i64 s3.f70),(.int .i64 s3.f71),(.int .i64 s3.f72),(.int .i64 s3.f73),(.int .i64 s3.f74),(.int .i64 s3.f75),(.int .i64 s3.f76),(.int .i64 s3.f77),(.int .i64 s3.f78),(.bool s3.f79),(.bool s3.f80),(.bool s3.f81)] (Int.toNat n4 * 41) = some s5.v /\ (alc (.cells ((R49.mk 0 0 0 0 0 0 0 0 0 0 0 0 0 0 0 0 0 0 0 0 0 0 0 0 0 0 0 0 0 0 0 0 0 0 0 0 0 0 false false false)).c 50) w fun b6 w7 => stcL (Addr.mk b6 0 none) 0 s5.l w7 fun w8 => ldR49 (Addr.mk b6 0 none) w8 fun s9 => Calls Tryz.prog 14 #[s9.v] w8 (en fun e11 w10 => ∃ s12,∃ n13,e11 = .returned (.tuple #[(.string s12),(.int .i64 n13)]) /\ (br (n13 != 0) (Kr (.string ⟨#[]⟩) (.int .i64 (-1)) (.int .i64 n13) w10) (∃ l14a l14n l14c w15,Sem.run Tryz.prog (Builtin.append_ #[25,9] 25 #[(.slice l2a l2n l2c),(.string s12)]) w10 = .ok (.slice l14a l14n l14c) w15 /\ (alc (.cells #[(.int .u8 10)] 5) w15 fun b16 w17 => ∃ l18a l18n l18c w19,Sem.run Tryz.prog (Builtin.append_ #[25,25] 25 #[(.slice l14a l14n l14c),(.slice (some (Addr.mk b16 0 none)) 1 1)]) w17 = .ok (.slice l18a l18n l18c) w19 /\ (R (.pointer (some a1)) (.slice l18a l18n l18c) s3.v (.int .i64 (IntKind.wrap .i64 (n4 + 1))) w19)))))))) (K0 (.pointer (some a1)) (.slice l2a l2n l2c) w))
def F18_2 (K0 : Value -> Value -> World -> Prop) (Kr : Value -> Value -> Value -> World -> Prop) : Nat -> Value -> Value -> Value -> Value -> World -> Prop
 | 0 => fun _ _ _ _ _ => False
 | n + 1 => F18_2B (F18_2 K0 Kr n) K0 Kr
def F18_2O (Q : Post) (t : Tm) (w : World) : Prop := ∃ n,F18_2 (fun y1 y5 w => ∀ g,rsh [(1,(.one .adr)),(5,(.one .slc))] (upds g [(1,y1),(5,y5)]) fun t => Q (.exit 0) t w) (fun y2 y3 y4 w => ∀ g,rsh [(2,(.one .str)),(3,(.one (.int .i64))),(4,(.one (.int .i64)))] (upds g [(2,y2),(3,y3),(4,y4)]) fun t => Q .ret t w) n (t 1) (t 5) (t 15) (t 16) w
theorem F18_2_step (K0 : Value -> Value -> World -> Prop) (Kr : Value -> Value -> Value -> World -> Prop) (n : Nat) (t : Tm) (w : World) : (F18_2 K0 Kr (n + 1) (t 1) (t 5) (t 15) (t 16) w) = rsh [(1,(.one .adr)),(5,(.one .slc)),(15,(.agg [(.int .u8),(.int .u8),(.int .u8),(.int .u8),(.int .u8),(.int .u8),(.int .u8),(.int .u8),(.int .u8),(.int .u8),(.int .u8),(.int .u8),(.int .u8),(.int .u8),(.int .u8),(.int .u8),(.int .u64),(.int .i64),(.int .u32),(.int .u16),(.int .u16),(.int .i64),(.int .i64),(.int .u16),(.int .u16),(.int .i64),(.int .i64),(.int .i64),(.int .i64),(.int .i64),(.int .i64),(.int .i64),(.int .i64),(.int .i64),(.int .i64),(.int .i64),(.int .i64),(.int .i64),.bool,.bool,.bool,(.int .u8),(.int .u8),(.int .u8),(.int .u8),(.int .u8),(.int .u8),(.int .u8),(.int .u8),(.int .u8),(.int .u8),(.int .u8),(.int .u8),(.int .u8),(.int .u8),(.int .u8),(.int .u8),(.int .u64),(.int .i64),(.int .u32),(.int .u16),(.int .u16),(.int .i64),(.int .i64),(.int .u16),(.int .u16),(.int .i64),(.int .i64),(.int .i64),(.int .i64),(.int .i64),(.int .i64),(.int .i64),(.int .i64),(.int .i64),(.int .i64),(.int .i64),(.int .i64),(.int .i64),.bool,.bool,.bool])),(16,(.one (.int .i64)))] t (fun t => vc Tryz.prog (orcOf []) [0,0,1,0,1,1] (getAt F18_code [0,0,1,0,1,1]) (fun o t w => match o with | .normal => F18_2 K0 Kr n (t 1) (t 5) (t 15) (t 16) w | .exit i => F18_2C K0 Kr (.exit i) t w | .ret => F18_2C K0 Kr .ret t w) t w) := by kernel_rfl
theorem F18_2_ok : ∀ Q t w,F18_2O Q t w -> W Tryz.prog Tryz.f18.ntmps (getAt F18_code [0,1,0,1,1]) Q t w := by
 intro Q t w ⟨n,h⟩
 refine (W_loop (P := Tryz.prog) (b := getAt F18_code [0,0,1,0,1,1]) (Q := F18_2C (fun y1 y5 w => ∀ g,rsh [(1,(.one .adr)),(5,(.one .slc))] (upds g [(1,y1),(5,y5)]) fun t => Q (.exit 0) t w) (fun y2 y3 y4 w => ∀ g,rsh [(2,(.one .str)),(3,(.one (.int .i64))),(4,(.one (.int .i64)))] (upds g [(2,y2),(3,y3),(4,y4)]) fun t => Q .ret t w)) (G := fun n t w => F18_2 (fun y1 y5 w => ∀ g,rsh [(1,(.one .adr)),(5,(.one .slc))] (upds g [(1,y1),(5,y5)]) fun t => Q (.exit 0) t w) (fun y2 y3 y4 w => ∀ g,rsh [(2,(.one .str)),(3,(.one (.int .i64))),(4,(.one (.int .i64)))] (upds g [(2,y2),(3,y3),(4,y4)]) fun t => Q .ret t w) n (t 1) (t 5) (t 15) (t 16) w) (fun _ _ h => h) (fun n t w h => ?_) n t w h).mono ?_
 ·rw [F18_2_step] at h
  exact vc_sound mixed (orcNil F18_code) _ _ rfl (okC_at F18_code_ok [0,0,1,0,1,1]) _ _ _ (rsh_out h)
 ·intro o t w q
  cases o with
  | normal => exact q.elim
  | exit i =>
   unfold F18_2C at q
   simp only at q
   split at q
   ·rename_i hi
    rw [nbeq] at hi
    subst hi
    exact out_ok [1,5] q
   ·exact q.elim
  | ret => exact out_ok [2,3,4] q
def F18 (x0 : Value) (w : World) (K : Value -> World -> Prop) : Prop :=
 exR60 fun s1 => x0 = s1.v /\ (alc (.cells s1.c 61) w fun b2 w3 => ldR58 ((Addr.mk b2 0 none).add 0) w3 fun s4 => ∃ k31 : Nat,F18_2 (fun y1_4 y5_4 w6 => ∀ _g7 : Tm,rdA y1_4 fun a8 => rdC y5_4 fun l9a l9n l9c => ldC (a8.add 82) w6 fun _ l10n _ => br (decide (((l10n : Int) : Int) > 65536)) (K (.tuple #[(.string ⟨#[]⟩),(.int .i64 (-1)),(.int .i64 3)]) w6) (ldC (a8.add 82) w6 fun l11a l11n l11c => ∃ k24 : Nat,F18_1 (fun y5_11 w13 => ∀ _g14 : Tm,rdC y5_11 fun l15a l15n l15c => br (decide (((l15n : Int) : Int) > 4194304)) (K (.tuple #[(.string ⟨#[]⟩),(.int .i64 (-1)),(.int .i64 2)]) w13) (∃ s16,∃ w17,Sem.run Tryz.prog (convert 25 9 (.slice l15a l15n l15c)) w13 = .ok (.string s16) w17 /\ (K (.tuple #[(.string s16),(.int .i64 0),(.int .i64 0)]) w17))) (fun y2_17 y3_17 y4_17 w19 => ∀ _g20 : Tm,rdS y2_17 fun s21 => rdI .i64 y3_17 fun n22 => rdI .i64 y4_17 fun n23 => K (.tuple #[(.string s21),(.int .i64 n22),(.int .i64 n23)]) w19) k24 (.slice l9a l9n l9c) (.slice l11a l11n l11c) (.int .i64 (l11n : Int)) (.int .i64 0) w6)) (fun y2_24 y3_24 y4_24 w26 => ∀ _g27 : Tm,rdS y2_24 fun s28 => rdI .i64 y3_24 fun n29 => rdI .i64 y4_24 fun n30 => K (.tuple #[(.string s28),(.int .i64 n29),(.int .i64 n30)]) w26) k31 (.pointer (some (Addr.mk b2 0 none))) (.slice none 0 0) s4.v (.int .i64 0) w3)
theorem F18_step (x0 : Value) (w : World) (K : Value -> World -> Prop) : (F18 x0 w K) = rsh [(0,(.agg [(.int .u8),(.int .u8),(.int .u8),(.int .u8),(.int .u8),(.int .u8),(.int .u8),(.int .u8),(.int .u8),(.int .u8),(.int .u8),(.int .u8),(.int .u8),(.int .u8),(.int .u8),(.int .u8),(.int .u64),(.int .i64),(.int .u32),(.int .u16),(.int .u16),(.int .i64),(.int .i64),(.int .u16),(.int .u16),(.int .i64),(.int .i64),(.int .i64),(.int .i64),(.int .i64),(.int .i64),(.int .i64),(.int .i64),(.int .i64),(.int .i64),(.int .i64),(.int .i64),(.int .i64),.bool,.bool,.bool,(.int .u8),(.int .u8),(.int .u8),(.int .u8),(.int .u8),(.int .u8),(.int .u8),(.int .u8),(.int .u8),(.int .u8),(.int .u8),(.int .u8),(.int .u8),(.int .u8),(.int .u8),(.int .u8),(.int .u64),(.int .i64),(.int .u32),(.int .u16),(.int .u16),(.int .i64),(.int .i64),(.int .u16),(.int .u16),(.int .i64),(.int .i64),(.int .i64),(.int .i64),(.int .i64),(.int .i64),(.int .i64),(.int .i64),(.int .i64),(.int .i64),(.int .i64),(.int .i64),(.int .i64),.bool,.bool,.bool,.slc]))] (args0 #[x0]) (fun t => vc Tryz.prog (orcOf [([0,1,0,1,1,1,1],F18_1O),([0,1,0,1,1],F18_2O)]) [] F18_code (retQ Tryz.prog Tryz.f18 K) t w) := by kernel_rfl
theorem F18_ok {x0 : Value} {w : World} {K : Value -> World -> Prop} (h : F18 x0 w K) : Calls Tryz.prog 18 #[x0] w (rt K) := by
 rw [F18_step] at h
 exact Calls.mono (calls_of (c := F18_code) mixed Tryz.func18 rfl (nlt rfl) (vc_sound mixed (orcCons (π := [0,1,0,1,1,1,1]) F18_1_ok (orcCons (π := [0,1,0,1,1]) F18_2_ok (orcNil F18_code))) F18_code [] rfl F18_code_ok _ _ _ (rsh_out h))) fun _ _ => rv_none
noncomputable def F23_code : Code := Tryz.f23.body.getD .skip
theorem F23_code_ok : okC Tryz.prog Tryz.f23.ntmps F23_code = true := by kernel_rfl
def F23 (x0 : Value) (x1 : Value) (w : World) (K : Value -> World -> Prop) : Prop :=
 exR60 fun s1 => x0 = s1.v /\ (exR60 fun s2 => x1 = s2.v /\ (alc (.cells s1.c 61) w fun b3 w4 => alc (.cells s2.c 61) w4 fun b5 w6 => ldR58 ((Addr.mk b3 0 none).add 0) w6 fun s7 => ldR58 ((Addr.mk b5 0 none).add 0) w6 fun s8 => ∃ b9,∃ w10,Sem.run Tryz.prog (binF Tryz.prog .eql 58 (.tmp 6) (.tmp 8) s7.v s8.v) w6 = .ok (.bool b9) w10 /\ (br b9 (ldC ((Addr.mk b3 0 none).add 82) w10 fun l11a l11n l11c => ldC ((Addr.mk b5 0 none).add 82) w10 fun l12a l12n l12c => Calls Tryz.prog 47 #[(.slice l11a l11n l11c),(.slice l12a l12n l12c),(.func (.func 29) #[] #[])] w10 (en fun e14 w13 => ∃ b15,e14 = .returned (.bool b15) /\ (K (.bool b15) w13))) (K (.bool false) w10))))
theorem F23_step (x0 : Value) (x1 : Value) (w : World) (K : Value -> World -> Prop) : (F23 x0 x1 w K) = rsh [(0,(.agg [(.int .u8),(.int .u8),(.int .u8),(.int .u8),(.int .u8),(.int .u8),(.int .u8),(.int .u8),(.int .u8),(.int .u8),(.int .u8),(.int .u8),(.int .u8),(.int .u8),(.int .u8),(.int .u8),(.int .u64),(.int .i64),(.int .u32),(.int .u16),(.int .u16),(.int .i64),(.int .i64),(.int .u16),(.int .u16),(.int .i64),(.int .i64),(.int .i64),(.int .i64),(.int .i64),(.int .i64),(.int .i64),(.int .i64),(.int .i64),(.int .i64),(.int .i64),(.int .i64),(.int .i64),.bool,.bool,.bool,(.int .u8),(.int .u8),(.int .u8),(.int .u8),(.int .u8),(.int .u8),(.int .u8),(.int .u8),(.int .u8),(.int .u8),(.int .u8),(.int .u8),(.int .u8),(.int .u8),(.int .u8),(.int .u8),(.int .u64),(.int .i64),(.int .u32),(.int .u16),(.int .u16),(.int .i64),(.int .i64),(.int .u16),(.int .u16),(.int .i64),(.int .i64),(.int .i64),(.int .i64),(.int .i64),(.int .i64),(.int .i64),(.int .i64),(.int .i64),(.int .i64),(.int .i64),(.int .i64),(.int .i64),.bool,.bool,.bool,.slc])),(1,(.agg [(.int .u8),(.int .u8),(.int .u8),(.int .u8),(.int .u8),(.int .u8),(.int .u8),(.int .u8),(.int .u8),(.int .u8),(.int .u8),(.int .u8),(.int .u8),(.int .u8),(.int .u8),(.int .u8),(.int .u64),(.int .i64),(.int .u32),(.int .u16),(.int .u16),(.int .i64),(.int .i64),(.int .u16),(.int .u16),(.int .i64),(.int .i64),(.int .i64),(.int .i64),(.int .i64),(.int .i64),(.int .i64),(.int .i64),(.int .i64),(.int .i64),(.int .i64),(.int .i64),(.int .i64),.bool,.bool,.bool,(.int .u8),(.int .u8),(.int .u8),(.int .u8),(.int .u8),(.int .u8),(.int .u8),(.int .u8),(.int .u8),(.int .u8),(.int .u8),(.int .u8),(.int .u8),(.int .u8),(.int .u8),(.int .u8),(.int .u64),(.int .i64),(.int .u32),(.int .u16),(.int .u16),(.int .i64),(.int .i64),(.int .u16),(.int .u16),(.int .i64),(.int .i64),(.int .i64),(.int .i64),(.int .i64),(.int .i64),(.int .i64),(.int .i64),(.int .i64),(.int .i64),(.int .i64),(.int .i64),(.int .i64),.bool,.bool,.bool,.slc]))] (args0 #[x0,x1]) (fun t => vc Tryz.prog (orcOf []) [] F23_code (retQ Tryz.prog Tryz.f23 K) t w) := by kernel_rfl
theorem F23_ok {x0 x1 : Value} {w : World} {K : Value -> World -> Prop} (h : F23 x0 x1 w K) : Calls Tryz.prog 23 #[x0,x1] w (rt K) := by
 rw [F23_step] at h
 exact Calls.mono (calls_of (c := F23_code) mixed Tryz.func23 rfl (nlt rfl) (vc_sound mixed (orcNil F23_code) F23_code [] rfl F23_code_ok _ _ _ (rsh_out h))) fun _ _ => rv_none
end Go.Proofs.YtilenpnpnbdndaaGreatDoor
namespace Go.Proofs.YtilenpnpnbdndaaGreatDoor
open Go Go.Sh
set_option maxRecDepth 100000
attribute [local instance] Esc.none
section
variable {W w : World} {M : List HP} {p q : R49} {a : Option Addr} {c : Nat} {ds : List Dd}
theorem ScrOk.at (h : ScrOk W p q a ds) (hs : Same W w) {i : Nat} {d : Dd} (hd : ds[i]? = some d) : ∃ ad,a = some ad /\ At w (ad.add (i * 12)) d.1.l := by
 have hr : Rd w a (ds.flatMap fun d => d.1.l) := h.rd.fr hs fun _ _ x => x
 have hne : 0 < (ds.flatMap fun d => d.1.l).length := by
  have := flat_length (f := fun d : Dd => d.1.l) (m := 12) (fun d => d.1.l_len) ds
  rw [this]
  have := (List.getElem?_eq_some_iff.1 hd).1
  omega
 obtain ⟨ad,rfl⟩ := hr.some hne
 exact ⟨ad,rfl,Rd.atI (f := fun d : Dd => d.1.l) (m := 12) hr (fun d => d.1.l_len) hd⟩
theorem line_call {d : Dd} (hT : TB W) (h : Hs W M w) (hS : ScrOk W p q a ds) (hd : d ∈ ds) : Calls Tryz.prog 8 #[d.1.v] w (rt fun v w' => v = .tuple #[.string (lineS d),.int .i64 (lineE d)] /\ Hs W M w') :=
 rt_mono (c8q hT h (hS.good d hd) (hS.holds d hd) (hS.len d hd)) fun _ _ ⟨S,N,hv,hA,h⟩ => by
  obtain ⟨e1,e2⟩ := hA.fn
  exact ⟨by rw [hv,e1,e2],h⟩
theorem line_callR {d : Dd} (hT : TB W) (h : Hs W M w) (hS : ScrOk W p q a ds) (hd : d ∈ ds) : Calls Tryz.prog 9 #[d.1.v] w (rt fun v w' => v = .tuple #[.string (lineS d),.int .i64 (lineE d)] /\ Hs W M w') :=
 rt_mono (c9q hT h (hS.good d hd) (hS.holds d hd)) fun _ _ ⟨S,N,hv,hA,h⟩ => by
  obtain ⟨e1,e2⟩ := hA.fn
  exact ⟨by rw [hv,e1,e2],h⟩
theorem conf_call {R : R49} (hT : TB W) (h : Hs W M w) (hG : GoodC R.c) : Calls Tryz.prog 14 #[R.v] w (rt fun v w' => v = .tuple #[.string (confS R),.int .i64 (confE R)] /\ Hs W M w') :=
 rt_mono (c14q hT h hG) fun _ _ ⟨S,N,hv,hA,h⟩ => by
  obtain ⟨e1,e2⟩ := hA.fn
  exact ⟨by rw [hv,e1,e2],h⟩
theorem conf_callR {R : R49} (hT : TB W) (h : Hs W M w) (hG : GoodC R.c) : Calls Tryz.prog 15 #[R.v] w (rt fun v w' => v = .tuple #[.string (confS R),.int .i64 (confE R)] /\ Hs W M w') :=
 rt_mono (c15q hT h hG) fun _ _ ⟨S,N,hv,hA,h⟩ => by
  obtain ⟨e1,e2⟩ := hA.fn
  exact ⟨by rw [hv,e1,e2],h⟩
theorem put_line {a2 : Option Addr} {b : List UInt8} {bc : Nat} {s : ByteArray} {K : Option Addr -> Nat -> Nat -> World -> Prop} (h : Hs W (slP 5 1 a2 b.length bc (u8v b) :: M) w) (hb : b.length + s.size + 1 <= 140737488355328)
  (hK : ∀ a' c' w',Hs W (slP 5 1 a' (b ++ (bl s ++ [10])).length c' (u8v (b ++ (bl s ++ [10]))) :: M) w' -> K a' (b ++ (bl s ++ [10])).length c' w') :
  ∃ l15a l15n l15c w16,Sem.run Tryz.prog (Builtin.append_ #[25,9] 25 #[(.slice a2 b.length bc),(.string s)]) w = .ok (.slice l15a l15n l15c) w16 /\ (Sh.alc (.cells #[(.int .u8 10)] 5) w16 fun b17 w18 => ∃ l19a l19n l19c w20,Sem.run Tryz.prog (Builtin.append_ #[25,25] 25 #[(.slice l15a l15n l15c),(.slice (some (Addr.mk b17 0 none)) 1 1)]) w18 = .ok (.slice l19a l19n l19c) w20 /\ K l19a l19n l19c w20) := by
 refine h.appendT E25 Tryz.underlying9 0 rfl (by omega) fun a3 c3 w3 h3 => ?_
 refine h3.alc fun nb w4 h4 => ?_
 have h4 : Hs W (pt nb (.cells #[.int .u8 10] 5 (0,0)) :: slP 5 1 a3 (b.length + s.size) c3 (u8v b ++ Lib.strCells s) :: M) w4 := h4
 refine h4.append E25 1 rfl (m := 1) (news := u8v [10]) (by simp [u8v]) (rd_blk (h4.at 0 rfl)) (u8v_one _) (by omega) (by omega) fun a5 c5 w5 h5 _ => ?_
 have h6 : Hs W (slP 5 1 a5 (b.length + s.size + 1) c5 (u8v b ++ Lib.strCells s ++ u8v [10]) :: M) w5 := h5.erase 0
 have e1 : u8v b ++ Lib.strCells s ++ u8v [10] = u8v (b ++ (bl s ++ [10])) := by rw [cells_u8v,u8v_app,u8v_app,List.append_assoc]
 have e2 : b.length + s.size + 1 = (b ++ (bl s ++ [10])).length := by simp [bl_len]; omega
 rw [e1,e2] at h6
 rw [e2]
 exact hK _ _ _ h6
theorem put_len (b : List UInt8) (d : Dd) : (b ++ (bl (lineS d) ++ [10])).length <= b.length + 786607 := by
 have := lineS_size d
 simp [bl_len]
 omega
theorem F18_1_loop {K2 : Value -> World -> Prop} {Kr : Value -> Value -> Value -> World -> Prop} (hT : TB W) (hS : ScrOk W p q a ds) (hn : ds.length <= 65536) :
  ∀ (ds2 ds1 : List Dd) (k : Nat) (ba : Option Addr) (bc : Nat) (b : List UInt8) (w : World),ds = ds1 ++ ds2 -> ds2.length < k -> b.length <= 20000000 -> Hs W (slP 5 1 ba b.length bc (u8v b) :: M) w ->
  (badAt ds2 ds1.length = none -> ∀ ba' bc' w',Hs W (slP 5 1 ba' (gather ds2 b).length bc' (u8v (gather ds2 b)) :: M) w' -> K2 (.slice ba' (gather ds2 b).length bc') w') ->
  (∀ (i : Nat) w',badAt ds2 ds1.length = some i -> Hs W M w' -> Kr (.string ⟨#[]⟩) (.int .i64 (i : Int)) (.int .i64 1) w') ->
  F18_1 K2 Kr k (.slice ba b.length bc) (.slice a ds.length c) (.int .i64 (ds.length : Int)) (.int .i64 (ds1.length : Int)) w := by
 intro ds2
 induction ds2 with
 | nil =>
  intro ds1 k ba bc b w hl hk hb h hK _
  obtain ⟨k,rfl⟩ : ∃ n,k = n + 1 := ⟨k - 1,by omega⟩
  show F18_1B _ _ _ _ _ _ _ _
  unfold F18_1B
  simp only [rdC_mk,rdI_mk]
  rw [List.append_nil] at hl
  rw [hl,decide_eq_false (by omega),br_false]
  exact hK rfl _ _ _ h
 | cons d ds2 ih =>
  intro ds1 k ba bc b w hl hk hb h hK hKr
  obtain ⟨k,rfl⟩ : ∃ n,k = n + 1 := ⟨k - 1,by omega⟩
  have hlen : ds.length = ds1.length + (ds2.length + 1) := by rw [hl]; simp
  have hi : ds[ds1.length]? = some d := by rw [hl]; simp
  have hm : d ∈ ds := List.mem_of_getElem? hi
  show F18_1B _ _ _ _ _ _ _ _
  unfold F18_1B
  simp only [rdC_mk,rdI_mk]
  rw [decide_eq_true (by omega),br_true]
  obtain ⟨ad,rfl,hat⟩ := hS.at h.1 hi
  refine ixS_to (p := ds1.length) rfl (by omega) ?_
  refine ldR26_of (s := d.1) hat ?_
  refine h.alc fun nb w2 h2 => h2.stcL 0 rfl (by rfl) fun w3 h3 => ?_
  have h3 : Hs W (pt nb (.cells d.1.c 27 (0,0)) :: slP 5 1 ba b.length bc (u8v b) :: M) w3 := h3
  refine ldR26_of (s := d.1) (h3.atL 0 rfl) ?_
  refine cl (line_call hT h3 hS hm) ?_
  rintro _ w4 ⟨rfl,h4⟩
  refine ⟨_,_,rfl,?_⟩
  have h5 : Hs W (slP 5 1 ba b.length bc (u8v b) :: M) w4 := h4.erase 0
  have e3 : IntKind.wrap .i64 ((ds1.length : Int) + 1) = (((ds1 ++ [d]).length : Nat) : Int) := by rw [wrap_i64 (by omega) (by omega)]; simp
  have el : (ds1 ++ [d]).length = ds1.length + 1 := by simp
  rcases lineE_01 d with he | he
  ·have e0 : ((0 : Int) != 0) = false := rfl
   rw [he,e0,br_false]
   have hbad : ∀ j,badAt (d :: ds2) j = badAt ds2 (j + 1) := fun j => by rw [badAt,if_pos he]
   by_cases hlong : b.length <= 4194304
   ·rw [decide_eq_true (by omega),br_true]
    refine put_line h5 (by have := lineS_size d; omega) fun a6 c6 w6 h6 => ?_
    rw [e3]
    refine ih (ds1 ++ [d]) k a6 c6 _ w6 (by rw [hl]; simp) (by simp at hk; omega) (by have := put_len b d; omega) h6 (fun hb' => ?_) (fun i w' hb' => ?_)
    ·have := hK (by rw [hbad,← el]; exact hb')
     rwa [gather,if_pos hlong] at this
    ·exact hKr i w' (by rw [hbad,← el]; exact hb')
   ·rw [decide_eq_false (by omega),br_false,e3]
    refine ih (ds1 ++ [d]) k ba bc b w4 (by rw [hl]; simp) (by simp at hk; omega) hb h5 (fun hb' => ?_) (fun i w' hb' => ?_)
    ·have := hK (by rw [hbad,← el]; exact hb')
     rwa [gather,if_neg hlong] at this
    ·exact hKr i w' (by rw [hbad,← el]; exact hb')
  ·have e0 : ((1 : Int) != 0) = true := rfl
   rw [he,e0,br_true]
   exact hKr _ _ (by rw [badAt,if_neg (by rw [he]; decide)]) (h5.erase 0)
theorem F18_2_go {K0 : Value -> Value -> World -> Prop} {Kr : Value -> Value -> Value -> World -> Prop} {x1 : Addr} (hT : TB W) (hp : GoodC p.c) (hq : GoodC q.c) (h : Hs W M w)
  (hK : confE p = 0 -> confE q = 0 -> ∀ ba' bc' w',Hs W (slP 5 1 ba' (headB p q).length bc' (u8v (headB p q)) :: M) w' -> K0 (.pointer (some x1)) (.slice ba' (headB p q).length bc') w')
  (hKr : (confE p ≠ 0 \/ confE q ≠ 0) -> ∀ w',Hs W M w' -> Kr (.string ⟨#[]⟩) (.int .i64 (-1)) (.int .i64 1) w') :
  ∃ k,F18_2 K0 Kr k (.pointer (some x1)) (.slice none 0 0) (mk58 p q).v (.int .i64 0) w := by
 refine ⟨3,?_⟩
 have e0 : ((0 : Int) != 0) = false := rfl
 have e1 : ((1 : Int) != 0) = true := rfl
 have sp := confS_size p
 have sq := confS_size q
 show F18_2B _ _ _ _ _ _ _ _
 unfold F18_2B
 simp only [rdC_mk,rdI_mk,rdA_mk]
 refine exR58_of (mk58 p q) ⟨rfl,?_⟩
 rw [decide_eq_true (by decide),br_true]
 refine ⟨by decide,exR49_of p ⟨part_p p q,?_⟩⟩
 refine (h.nil 5 1).alc fun nb w2 h2 => h2.stcL 0 rfl (by rfl) fun w3 h3 => ?_
 have h3 : Hs W (pt nb (.cells p.c 50 (0,0)) :: slP 5 1 none 0 0 [] :: M) w3 := h3
 refine ldR49_of (s := p) (h3.atL 0 rfl) ?_
 refine cl (conf_call hT h3 hp) ?_
 rintro _ w4 ⟨rfl,h4⟩
 refine ⟨_,_,rfl,?_⟩
 have h5 : Hs W (slP 5 1 none (List.length ([] : List UInt8)) 0 (u8v []) :: M) w4 := h4.erase 0
 rcases confE_01 p with he | he
 ·rw [he,e0,br_false]
  refine put_line (b := []) h5 (by simp; omega) fun a6 c6 w6 h6 => ?_
  have e3 : IntKind.wrap .i64 ((0 : Int) + 1) = 1 := by rw [wrap_i64 (by omega) (by omega)]; rfl
  rw [e3]
  show F18_2B _ _ _ _ _ _ _ _
  unfold F18_2B
  simp only [rdC_mk,rdI_mk,rdA_mk]
  refine exR58_of (mk58 p q) ⟨rfl,?_⟩
  rw [decide_eq_true (by decide),br_true]
  refine ⟨by decide,exR49_of q ⟨part_q p q,?_⟩⟩
  refine h6.alc fun nb2 w7 h7 => h7.stcL 0 rfl (by rfl) fun w8 h8 => ?_
  have h8 : Hs W (pt nb2 (.cells q.c 50 (0,0)) :: slP 5 1 a6 ([] ++ (bl (confS p) ++ [10])).length c6 (u8v ([] ++ (bl (confS p) ++ [10]))) :: M) w8 := h8
  refine ldR49_of (s := q) (h8.atL 0 rfl) ?_
  refine cl (conf_call hT h8 hq) ?_
  rintro _ w9 ⟨rfl,h9⟩
  refine ⟨_,_,rfl,?_⟩
  have h10 : Hs W (slP 5 1 a6 ([] ++ (bl (confS p) ++ [10])).length c6 (u8v ([] ++ (bl (confS p) ++ [10]))) :: M) w9 := h9.erase 0
  rcases confE_01 q with he2 | he2
  ·rw [he2,e0,br_false]
   refine put_line h10 (by simp [bl_len]; omega) fun a11 c11 w11 h11 => ?_
   have e4 : IntKind.wrap .i64 ((1 : Int) + 1) = 2 := by rw [wrap_i64 (by omega) (by omega)]; rfl
   rw [e4]
   show F18_2B _ _ _ _ _ _ _ _
   unfold F18_2B
   simp only [rdC_mk,rdI_mk,rdA_mk]
   refine exR58_of (mk58 p q) ⟨rfl,?_⟩
   rw [decide_eq_false (by decide),br_false]
   exact hK he he2 _ _ _ h11
  ·rw [he2,e1,br_true]
   exact hKr (.inr (by rw [he2]; decide)) _ (h10.erase 0)
 ·rw [he,e1,br_true]
  exact hKr (.inl (by rw [he]; decide)) _ (h5.erase 0)
theorem headB_le (p q : R49) : (headB p q).length <= 20000000 := by
 have := confS_size p
 have := confS_size q
 simp [headB,bl_len]
 omega
theorem c18 (hT : TB w) (hS : ScrOk w p q a ds) : Calls Tryz.prog 18 #[(mk60 p q a ds.length c).v] w (rt fun v w' => v = tup3 (printF p q ds) /\ Same w w') := by
 refine F18_ok ?_
 unfold F18
 refine exR60_of (mk60 p q a ds.length c) ⟨rfl,?_⟩
 refine (Hs.start w).alc fun b2 w3 h3 => ?_
 have at3 : ∀ w',Hs w [pt b2 (.cells (mk60 p q a ds.length c).c 61 (0,0))] w' -> At w' ⟨b2,0,none⟩ (mk60 p q a ds.length c).l := fun w' h => h.atL 0 rfl
 refine ldR58_of (s := mk58 p q) (at_58 (at3 w3 h3)) ?_
 refine F18_2_go hT hS.gp hS.gq h3 (fun hp hq ba bc w4 h4 => ?_) (fun hbad w4 h4 => ?_)
 ·intro _
  simp only [rdA_mk,rdC_mk]
  refine ldC_c (at_d (at3 w4 (h4.erase 0))) ?_
  have hpf : printF p q ds = tailF (headB p q) ds := by unfold printF; rw [if_neg (by simp [hp,hq])]
  refine br_dec.2 ⟨fun hl => ?_,fun hl => ?_⟩
  ·refine ⟨?_,h4.old⟩
   rw [hpf,tailF,if_pos (by omega)]
   rfl
  ·refine ldC_c (at_d (at3 w4 (h4.erase 0))) ⟨ds.length + 1,?_⟩
   refine F18_1_loop hT hS (by omega) ds [] _ ba bc _ w4 rfl (by omega) (headB_le p q) h4 (fun hn ba' bc' w5 h5 => ?_) (fun i w5 hi h5 => ?_)
   ·intro _
    simp only [rdC_mk]
    refine br_dec.2 ⟨fun hg => ⟨?_,h5.old⟩,fun hg => ?_⟩
    ·rw [hpf,tailF,if_neg (by omega),show badAt ds 0 = none from hn]
     simp only
     rw [if_pos (by omega)]
     rfl
    ·refine ⟨_,_,run_bs (h5.rd 0 rfl),?_,h5.old⟩
     rw [hpf,tailF,if_neg (by omega),show badAt ds 0 = none from hn]
     simp only
     rw [if_neg (by omega)]
     rfl
   ·intro _
    simp only [rdS_mk,rdI_mk]
    refine ⟨?_,h5.old⟩
    rw [hpf,tailF,if_neg (by omega),show badAt ds 0 = some i from hi]
    rfl
 ·intro _
  simp only [rdS_mk,rdI_mk]
  refine ⟨?_,h4.old⟩
  unfold printF
  rw [if_pos hbad]
  rfl
end
end Go.Proofs.YtilenpnpnbdndaaGreatDoor
