/- Own text: part of the shallow reading of the code and of the contracts that are proved over it. -/
import Derived.Test.YtilenpnpnbdndaaGreatDoorSrD
import Derived.Test.YtilenpnpnbdndaaGreatDoorSrE
import Derived.Test.YtilenpnpnbdndaaGreatDoorShO
import Derived.Test.YtilenpnpnbdndaaGreatDoorShDf
import Derived.KernelRfl
namespace Go.Proofs.YtilenpnpnbdndaaGreatDoor
open Go Go.Sh Go.RowKit
def FV (c : Int) : Value := .iface 113 (.agg #[.int .i64 c])
def PE (c : Int) : List PanicEntry := [{ v := FV c,recovered := false }]
section
variable {w : World} {p : Addr} {c x : Int}
attribute [local instance] Esc.none
theorem rest24 {a : Act} {w : World} {Q : Exit -> Act -> World -> Prop} {R : World -> Prop} (hs : a.tmps.size = 20) (hd : a.defers = [])
  (h : F24_0O (fun o _ w => match o with | .exit _ => False | _ => R w) (fun i => a.tmps.getD i undef) w)
  (hR : ∀ e a' w',(e = .normal \/ e = .ret) -> a'.defers = [] -> R w' -> Q e a' w') : (getAt F24_code [1]).wp Tryz.prog Q a w := by
 refine wp_mono (wpIn_wide.1 (F24_0_ok0 _ _ _ h none [] a ⟨hs,hd,fun _ => rfl,fun _ hi => by cases hi⟩)) fun e a w q => ?_
 cases e with
 | normal => obtain ⟨t,hM,q⟩ := q; exact hR _ _ _ (.inl rfl) hM.2.1 q
 | exit i => obtain ⟨t,hM,q⟩ := q; exact q.elim
 | ret => obtain ⟨t,hM,q⟩ := q; exact hR _ _ _ (.inr rfl) hM.2.1 q
 | goto l => exact q.elim
 | panic c => exact q.2.elim
 | outgrown => exact q.elim
theorem res24 (tmps : Array Value) (w : World) : (results Tryz.f24 tmps).run Tryz.prog w = .ok (.tuple #[]) w := by
 rw [results_eq]
 simp [Tryz.results24]
theorem code24 : F24_code = .seq (.region 0 #[{ dst := some 5, op := .call { callee := .builtin .recover, args := #[], argTypes := #[] }, type := 20, pos := "script.go:17", after := #[], guard := none }, { dst := some 2, op := .assign (.tmp 5), type := 20, pos := "script.go:17", after := #[{ on := 0, ground := .data }, { on := 0, ground := .chain }, { on := 0, ground := .phase }], guard := none }] false) (getAt F24_code [1]) := by kernel_rfl
theorem body24 : Tryz.f24.body = some F24_code := by kernel_rfl
theorem c24p {K : World -> Prop} {W : World} {b : Nat} {M : List HP} (h : Hs W (pt b (.cells #[.int .i64 x] 28) :: M) w) (hK : ∀ w',Hs W (pt b (.cells #[.int .i64 c] 28) :: M) w' -> K w') :
  dcl Tryz.prog 24 #[.pointer (some ⟨b,0,none⟩)] (.panicking (PE c)) w K := by
 unfold dcl
 refine callsD_of_wpS Tryz.func24 body24 fun c₀ cs hu => ?_
 rw [code24]
 apply wpS_seq
 apply wpS_region
 simp [wpOpsS,go_sem,recoverD,hu,Tryz.ntmps24,Exit.thenS,PE]
 apply wpS_of_wp
 refine rest24 (R := K) ?_ ?_ ?_ fun e a' w' he hd hk => ?_
 ·simp
 ·rfl
 ·unfold F24_0O
  simp only []
  have e0 : (#[Value.pointer (some ⟨b,0,none⟩)] ++ ((Array.replicate 19 undef).setIfInBounds 4 (FV c)).setIfInBounds 1 (FV c)).getD 0 undef = .pointer (some ⟨b,0,none⟩) := by simp
  have e2 : (#[Value.pointer (some ⟨b,0,none⟩)] ++ ((Array.replicate 19 undef).setIfInBounds 4 (FV c)).setIfInBounds 1 (FV c)).getD 2 undef = FV c := by simp
  rw [e0,e2]
  unfold F24_0
  rw [rdP_mk]
  refine .inr ⟨_,_,rfl,false,w,by kernel_rfl,?_⟩
  rw [br_false]
  refine ⟨c,true,w,by kernel_rfl,?_⟩
  refine h.alc fun b' w' h' => ?_
  refine h'.stc 0 rfl (by simp) fun w2 h2 => ?_
  simp only [Bool.not_true,br_false]
  refine h2.ldI 0 rfl rfl ?_
  show nn (some _) _
  simp only [nn]
  refine h2.stc 1 rfl (by simp) fun w3 h3 => ?_
  intro _
  exact hK _ (h3.erase 0)
 ·rcases he with rfl | rfl
  ·exact ⟨hd,_,rfl,_,res24 _ _,⟨_,rfl⟩,rfl,hk⟩
  ·exact ⟨hd,_,rfl,_,res24 _ _,⟨_,rfl⟩,rfl,hk⟩
theorem c24r {K : World -> Prop} (hK : K w) : dcl Tryz.prog 24 #[.pointer (some p)] .returning w K := by
 unfold dcl
 refine callsD_of_wpS Tryz.func24 body24 fun c₀ cs hu => ?_
 rw [code24]
 apply wpS_seq
 apply wpS_region
 simp [wpOpsS,go_sem,recoverD,hu,Tryz.ntmps24,Exit.thenS]
 apply wpS_of_wp
 refine rest24 (R := K) ?_ ?_ ?_ fun e a' w' he hd hk => ?_
 ·simp
 ·rfl
 ·unfold F24_0O
  simp only []
  have e0 : (#[Value.pointer (some p)] ++ ((Array.replicate 19 undef).setIfInBounds 4 .nilIface).setIfInBounds 1 .nilIface).getD 0 undef = .pointer (some p) := by simp
  have e2 : (#[Value.pointer (some p)] ++ ((Array.replicate 19 undef).setIfInBounds 4 .nilIface).setIfInBounds 1 .nilIface).getD 2 undef = .nilIface := by simp
  rw [e0,e2]
  unfold F24_0
  rw [rdP_mk]
  refine .inl ⟨rfl,true,w,by kernel_rfl,?_⟩
  rw [br_true]
  intro _
  exact hK
 ·have hm : (c₀ :: cs) = { c₀ with mode := .returning } :: cs := by cases c₀; simp at hu; subst hu; rfl
  rcases he with rfl | rfl
  ·exact ⟨hd,.returning,hm,_,res24 _ _,⟨_,rfl⟩,rfl,hk⟩
  ·exact ⟨hd,.returning,hm,_,res24 _ _,⟨_,rfl⟩,rfl,hk⟩
end
end Go.Proofs.YtilenpnpnbdndaaGreatDoor
namespace Go.Proofs.YtilenpnpnbdndaaGreatDoor
open Go Go.Sh
set_option maxRecDepth 100000
set_option maxHeartbeats 4000000
attribute [local instance] Esc.none
noncomputable def F32_code : Code := Tryz.f32.body.getD .skip
theorem F32_code_ok : okC Tryz.prog Tryz.f32.ntmps F32_code = true := by kernel_rfl
def F32 (x0 : Value) (x1 : Value) (w : World) (K : Value -> World -> Prop) : Prop :=
 rdS x0 fun s1 => rdS x1 fun s2 => Calls Tryz.prog 55 #[(.string s1),(.string s2),(.int .i64 0),(.int .i64 (-1))] w (en fun e4 w3 => ∃ l5a l5n l5c,e4 = .returned (.slice l5a l5n l5c) /\ (K (.slice l5a l5n l5c) w3))
theorem F32_step (x0 : Value) (x1 : Value) (w : World) (K : Value -> World -> Prop) : (F32 x0 x1 w K) = rsh [(0,(.one .str)),(1,(.one .str))] (args0 #[x0,x1]) (fun t => vc Tryz.prog (orcOf []) [] F32_code (retQ Tryz.prog Tryz.f32 K) t w) := by kernel_rfl
theorem F32_ok {x0 x1 : Value} {w : World} {K : Value -> World -> Prop} (h : F32 x0 x1 w K) : Calls Tryz.prog 32 #[x0,x1] w (rt K) := by
 rw [F32_step] at h
 exact Calls.mono (calls_of (c := F32_code) mixed Tryz.func32 rfl (nlt rfl) (vc_sound mixed (orcNil F32_code) F32_code [] rfl F32_code_ok _ _ _ (rsh_out h))) fun _ _ => rv_none
noncomputable def F45_code : Code := Tryz.f45.body.getD .skip
theorem F45_code_ok : okC Tryz.prog Tryz.f45.ntmps F45_code = true := by kernel_rfl
def F45 (x0 : Value) (w : World) (K : Value -> World -> Prop) : Prop :=
 rdS x0 fun s1 => alc (.cells #[(.string s1)] 9) w fun b2 w3 => K (.func (.func 66) #[] #[(.pointer (some (Addr.mk b2 0 none)))]) w3
theorem F45_step (x0 : Value) (w : World) (K : Value -> World -> Prop) : (F45 x0 w K) = rsh [(0,(.one .str))] (args0 #[x0]) (fun t => vc Tryz.prog (orcOf []) [] F45_code (retQ Tryz.prog Tryz.f45 K) t w) := by kernel_rfl
theorem F45_ok {x0 : Value} {w : World} {K : Value -> World -> Prop} (h : F45 x0 w K) : Calls Tryz.prog 45 #[x0] w (rt K) := by
 rw [F45_step] at h
 exact Calls.mono (calls_of (c := F45_code) mixed Tryz.func45 rfl (nlt rfl) (vc_sound mixed (orcNil F45_code) F45_code [] rfl F45_code_ok _ _ _ (rsh_out h))) fun _ _ => rv_none
noncomputable def F46_code : Code := Tryz.f46.body.getD .skip
theorem F46_code_ok : okC Tryz.prog Tryz.f46.ntmps F46_code = true := by kernel_rfl
def F46 (x0 : Value) (x1 : Value) (w : World) (K : Value -> World -> Prop) : Prop :=
 rdS x0 fun s1 => rdS x1 fun s2 => Calls Tryz.prog 68 #[(.string s1),(.string s2)] w (en fun e4 w3 => ∃ s5,∃ b6,e4 = .returned (.tuple #[(.string s5),(.bool b6)]) /\ (K (.tuple #[(.string s5),(.bool b6)]) w3))
theorem F46_step (x0 : Value) (x1 : Value) (w : World) (K : Value -> World -> Prop) : (F46 x0 x1 w K) = rsh [(0,(.one .str)),(1,(.one .str))] (args0 #[x0,x1]) (fun t => vc Tryz.prog (orcOf []) [] F46_code (retQ Tryz.prog Tryz.f46 K) t w) := by kernel_rfl
theorem F46_ok {x0 x1 : Value} {w : World} {K : Value -> World -> Prop} (h : F46 x0 x1 w K) : Calls Tryz.prog 46 #[x0,x1] w (rt K) := by
 rw [F46_step] at h
 exact Calls.mono (calls_of (c := F46_code) mixed Tryz.func46 rfl (nlt rfl) (vc_sound mixed (orcNil F46_code) F46_code [] rfl F46_code_ok _ _ _ (rsh_out h))) fun _ _ => rv_none
noncomputable def F52_code : Code := Tryz.f52.body.getD .skip
theorem F52_code_ok : okC Tryz.prog Tryz.f52.ntmps F52_code = true := by kernel_rfl
def F52_1C (K0 : World -> Prop) (Kr : Value -> World -> Prop) : Post := fun o t w => match o with | .normal => False | .exit i => (match Nat.beq i 0 with | true => K0  w | false => False) | .ret => Kr (t 4) w
def F52_1B (R : Value -> Value -> Value -> Value -> World -> Prop) (K0 : World -> Prop) (Kr : Value -> World -> Prop) (x0 : Value) (x1 : Value) (x12 : Value) (x13 : Value) (w : World) : Prop :=
 rdC x0 fun l1a l1n l1c => rdC x1 fun l2a l2n l2c => rdI .i64 x12 fun n3 => rdI .i64 x13 fun n4 => br (decide ((n4 : Int) < n3)) (drw w fun w5 => ixS 1 l1a l1n n4 fun a6 => ldI .u8 a6 w5 fun n7 => ixS 1 l2a l2n n4 fun a8 => ldI .u8 a8 w5 fun n9 => br (n7 != n9) (Kr (.bool false) w5) (R (.slice l1a l1n l1c) (.slice l2a l2n l2c) (.int .i64 n3) (.int .i64 (IntKind.wrap .i64 (n4 + 1))) w5)) (K0 w)
def F52_1 (K0 : World -> Prop) (Kr : Value -> World -> Prop) : Nat -> Value -> Value -> Value -> Value -> World -> Prop
 | 0 => fun _ _ _ _ _ => False
 | n + 1 => F52_1B (F52_1 K0 Kr n) K0 Kr
def F52_1O (Q : Post) (t : Tm) (w : World) : Prop := ∃ n,F52_1 (fun w => ∀ g,rsh [] (upds g []) fun t => Q (.exit 0) t w) (fun y4 w => ∀ g,rsh [(4,(.one .bool))] (upds g [(4,y4)]) fun t => Q .ret t w) n (t 0) (t 1) (t 12) (t 13) w
theorem F52_1_step (K0 : World -> Prop) (Kr : Value -> World -> Prop) (n : Nat) (t : Tm) (w : World) : (F52_1 K0 Kr (n + 1) (t 0) (t 1) (t 12) (t 13) w) = rsh [(0,(.one .slc)),(1,(.one .slc)),(12,(.one (.int .i64))),(13,(.one (.int .i64)))] t (fun t => vc Tryz.prog (orcOf []) [0,0,1,0,1,1] (getAt F52_code [0,0,1,0,1,1]) (fun o t w => match o with | .normal => F52_1 K0 Kr n (t 0) (t 1) (t 12) (t 13) w | .exit i => F52_1C K0 Kr (.exit i) t w | .ret => F52_1C K0 Kr .ret t w) t w) := by kernel_rfl
theorem F52_1_ok : ∀ Q t w,F52_1O Q t w -> W Tryz.prog Tryz.f52.ntmps (getAt F52_code [0,1,0,1,1]) Q t w := by
 intro Q t w ⟨n,h⟩
 refine (W_loop (P := Tryz.prog) (b := getAt F52_code [0,0,1,0,1,1]) (Q := F52_1C (fun w => ∀ g,rsh [] (upds g []) fun t => Q (.exit 0) t w) (fun y4 w => ∀ g,rsh [(4,(.one .bool))] (upds g [(4,y4)]) fun t => Q .ret t w)) (G := fun n t w => F52_1 (fun w => ∀ g,rsh [] (upds g []) fun t => Q (.exit 0) t w) (fun y4 w => ∀ g,rsh [(4,(.one .bool))] (upds g [(4,y4)]) fun t => Q .ret t w) n (t 0) (t 1) (t 12) (t 13) w) (fun _ _ h => h) (fun n t w h => ?_) n t w h).mono ?_
 ·rw [F52_1_step] at h
  exact vc_sound mixed (orcNil F52_code) _ _ rfl (okC_at F52_code_ok [0,0,1,0,1,1]) _ _ _ (rsh_out h)
 ·intro o t w q
  cases o with
  | normal => exact q.elim
  | exit i =>
   unfold F52_1C at q
   simp only at q
   split at q
   ·rename_i hi
    rw [nbeq] at hi
    subst hi
    exact out_ok [] q
   ·exact q.elim
  | ret => exact out_ok [4] q
def F52 (x0 : Value) (x1 : Value) (w : World) (K : Value -> World -> Prop) : Prop :=
 rdC x0 fun l1a l1n l1c => rdC x1 fun l2a l2n l2c => br ((l1n : Int) != (l2n : Int)) (K (.bool false) w) (∃ k10 : Nat,F52_1 (fun w4 => ∀ _g5 : Tm,K (.bool true) w4) (fun y4_5 w7 => ∀ _g8 : Tm,rdB y4_5 fun b9 => K (.bool b9) w7) k10 (.slice l1a l1n l1c) (.slice l2a l2n l2c) (.int .i64 (l1n : Int)) (.int .i64 0) w)
theorem F52_step (x0 : Value) (x1 : Value) (w : World) (K : Value -> World -> Prop) : (F52 x0 x1 w K) = rsh [(0,(.one .slc)),(1,(.one .slc))] (args0 #[x0,x1]) (fun t => vc Tryz.prog (orcOf [([0,1,0,1,1],F52_1O)]) [] F52_code (retQ Tryz.prog Tryz.f52 K) t w) := by kernel_rfl
theorem F52_ok {x0 x1 : Value} {w : World} {K : Value -> World -> Prop} (h : F52 x0 x1 w K) : Calls Tryz.prog 52 #[x0,x1] w (rt K) := by
 rw [F52_step] at h
 exact Calls.mono (calls_of (c := F52_code) mixed Tryz.func52 rfl (nlt rfl) (vc_sound mixed (orcCons (π := [0,1,0,1,1]) F52_1_ok (orcNil F52_code)) F52_code [] rfl F52_code_ok _ _ _ (rsh_out h))) fun _ _ => rv_none
noncomputable def F55_code : Code := Tryz.f55.body.getD .skip
theorem F55_code_ok : okC Tryz.prog Tryz.f55.ntmps F55_code = true := by kernel_rfl
def F55_1C (K0 : Value -> Value -> Value -> World -> Prop) : Post := fun o t w => match o with | .normal => False | .exit i => (match Nat.beq i 0 with | true => K0 (t 0) (t 9) (t 10) w | false => False) | .ret => False
def F55_1B (R : Value -> Value -> Value -> Value -> Value -> Value -> World -> Prop) (K0 : Value -> Value -> Value -> World -> Prop) (x0 : Value) (x1 : Value) (x2 : Value) (x3 : Value) (x9 : Value) (x10 : Value) (w : World) : Prop :=
 rdS x0 fun s1 => rdS x1 fun s2 => rdI .i64 x2 fun n3 => rdI .i64 x3 fun n4 => rdC x9 fun l5a l5n l5c => rdI .i64 x10 fun n6 => br (decide ((n6 : Int) < n4)) (Calls Tryz.prog 88 #[(.string s1),(.string s2)] w (en fun e8 w7 => ∃ n9,e8 = .returned (.int .i64 n9) /\ (br (decide ((n9 : Int) < 0)) (K0 (.string s1) (.slice l5a l5n l5c) (.int .i64 n6) w7) (slT s1 none (some (.int .i64 (IntKind.wrap .i64 (n9 + n3)))) fun s10 => ixS 1 l5a l5n n6 fun a11 => stc a11 (.string s10) w7 fun w12 => slT s1 (some (.int .i64 (IntKind.wrap .i64 (n9 + (ByteArray.size s2 : Int))))) none fun s13 => R (.string s13) (.string s2) (.int .i64 n3) (.int .i64 n4) (.slice l5a l5n l5c) (.int .i64 (IntKind.wrap .i64 (n6 + 1))) w12)))) (K0 (.string s1) (.slice l5a l5n l5c) (.int .i64 n6) w)
def F55_1 (K0 : Value -> Value -> Value -> World -> Prop) : Nat -> Value -> Value -> Value -> Value -> Value -> Value -> World -> Prop
 | 0 => fun _ _ _ _ _ _ _ => False
 | n + 1 => F55_1B (F55_1 K0 n) K0
def F55_1O (Q : Post) (t : Tm) (w : World) : Prop := ∃ n,F55_1 (fun y0 y9 y10 w => ∀ g,rsh [(0,(.one .str)),(9,(.one .slc)),(10,(.one (.int .i64)))] (upds g [(0,y0),(9,y9),(10,y10)]) fun t => Q (.exit 0) t w) n (t 0) (t 1) (t 2) (t 3) (t 9) (t 10) w
theorem F55_1_step (K0 : Value -> Value -> Value -> World -> Prop) (n : Nat) (t : Tm) (w : World) : (F55_1 K0 (n + 1) (t 0) (t 1) (t 2) (t 3) (t 9) (t 10) w) = rsh [(0,(.one .str)),(1,(.one .str)),(2,(.one (.int .i64))),(3,(.one (.int .i64))),(9,(.one .slc)),(10,(.one (.int .i64)))] t (fun t => vc Tryz.prog (orcOf []) [0,0,0,1,1,1,1,1,1,1,1] (getAt F55_code [0,0,0,1,1,1,1,1,1,1,1]) (fun o t w => match o with | .normal => F55_1 K0 n (t 0) (t 1) (t 2) (t 3) (t 9) (t 10) w | .exit i => F55_1C K0 (.exit i) t w | .ret => F55_1C K0 .ret t w) t w) := by kernel_rfl
theorem F55_1_ok : ∀ Q t w,F55_1O Q t w -> W Tryz.prog Tryz.f55.ntmps (getAt F55_code [0,0,1,1,1,1,1,1,1,1]) Q t w := by
 intro Q t w ⟨n,h⟩
 refine (W_loop (P := Tryz.prog) (b := getAt F55_code [0,0,0,1,1,1,1,1,1,1,1]) (Q := F55_1C (fun y0 y9 y10 w => ∀ g,rsh [(0,(.one .str)),(9,(.one .slc)),(10,(.one (.int .i64)))] (upds g [(0,y0),(9,y9),(10,y10)]) fun t => Q (.exit 0) t w)) (G := fun n t w => F55_1 (fun y0 y9 y10 w => ∀ g,rsh [(0,(.one .str)),(9,(.one .slc)),(10,(.one (.int .i64)))] (upds g [(0,y0),(9,y9),(10,y10)]) fun t => Q (.exit 0) t w) n (t 0) (t 1) (t 2) (t 3) (t 9) (t 10) w) (fun _ _ h => h) (fun n t w h => ?_) n t w h).mono ?_
 ·rw [F55_1_step] at h
  exact vc_sound mixed (orcNil F55_code) _ _ rfl (okC_at F55_code_ok [0,0,0,1,1,1,1,1,1,1,1]) _ _ _ (rsh_out h)
 ·intro o t w q
  cases o with
  | normal => exact q.elim
  | exit i =>
   unfold F55_1C at q
   simp only at q
   split at q
   ·rename_i hi
    rw [nbeq] at hi
    subst hi
    exact out_ok [0,9,10] q
   ·exact q.elim
  | ret => exact q.elim
def F55_2C (Kr : Value -> World -> Prop) : Post := fun o t w => match o with | .normal => False | .exit _ => (False) | .ret => Kr (t 8) w
def F55_2 (Kr : Value -> World -> Prop) (x0 : Value) (x1 : Value) (x2 : Value) (x3 : Value) (w : World) : Prop :=
 rdS x0 fun s1 => rdS x1 fun s2 => rdI .i64 x2 fun n3 => rdI .i64 x3 fun n4 => ∃ l5a l5n l5c,∃ w6,Sem.run Tryz.prog (Instr.makeSlice 77 (.int .i64 (if ((IntKind.wrap .i64 ((ByteArray.size s1 : Int) + 1)) : Int) < n4 then (IntKind.wrap .i64 ((ByteArray.size s1 : Int) + 1)) else n4)) (.int .i64 (if ((IntKind.wrap .i64 ((ByteArray.size s1 : Int) + 1)) : Int) < n4 then (IntKind.wrap .i64 ((ByteArray.size s1 : Int) + 1)) else n4))) w = .ok (.slice l5a l5n l5c) w6 /\ (∃ k16 : Nat,F55_1 (fun y0_6 y9_6 y10_6 w8 => ∀ _g9 : Tm,rdS y0_6 fun s10 => rdC y9_6 fun l11a l11n l11c => rdI .i64 y10_6 fun n12 => ixS 1 l11a l11n n12 fun a13 => stc a13 (.string s10) w8 fun w14 => slS 1 l11a l11n l11c none (some (.int .i64 (IntKind.wrap .i64 (n12 + 1)))) fun l15a l15n l15c => Kr (.slice l15a l15n l15c) w14) k16 (.string s1) (.string s2) (.int .i64 n3) (.int .i64 (IntKind.wrap .i64 ((if ((IntKind.wrap .i64 ((ByteArray.size s1 : Int) + 1)) : Int) < n4 then (IntKind.wrap .i64 ((ByteArray.size s1 : Int) + 1)) else n4) - 1))) (.slice l5a l5n l5c) (.int .i64 0) w6)
def F55_2O (Q : Post) (t : Tm) (w : World) : Prop := F55_2 (fun y8 w => ∀ g,rsh [(8,(.one .slc))] (upds g [(8,y8)]) fun t => Q .ret t w) (t 0) (t 1) (t 2) (t 3) w
theorem F55_2_step (Kr : Value -> World -> Prop) (t : Tm) (w : World) : (F55_2 Kr (t 0) (t 1) (t 2) (t 3) w) = rsh [(0,(.one .str)),(1,(.one .str)),(2,(.one (.int .i64))),(3,(.one (.int .i64)))] t (fun t => vc Tryz.prog (orcOf [([0,0,1,1,1,1,1,1,1,1],F55_1O)]) [1,1,1,1] (getAt F55_code [1,1,1,1]) (F55_2C Kr) t w) := by kernel_rfl
theorem F55_2_ok : ∀ Q t w,F55_2O Q t w -> W Tryz.prog Tryz.f55.ntmps (getAt F55_code [1,1,1,1]) Q t w := by
 intro Q t w h
 unfold F55_2O at h
 rw [F55_2_step] at h
 refine (vc_sound mixed (orcCons (π := [0,0,1,1,1,1,1,1,1,1]) F55_1_ok (orcNil F55_code)) _ _ rfl (okC_at F55_code_ok [1,1,1,1]) _ _ _ (rsh_out h)).mono ?_
 intro o t w q
 cases o with
 | normal => exact q.elim
 | exit i => exact q.elim
 | ret => exact out_ok [8] q
def F55 (x0 : Value) (x1 : Value) (x2 : Value) (x3 : Value) (w : World) (K : Value -> World -> Prop) : Prop :=
 rdS x0 fun s1 => rdS x1 fun s2 => rdI .i64 x2 fun n3 => rdI .i64 x3 fun n4 => br (n4 == 0) (K (.slice none 0 0) w) (br (ByteArray.toList s2 == ByteArray.toList ⟨#[]⟩) (Calls Tryz.prog 86 #[(.string s1),(.int .i64 n4)] w (en fun e6 w5 => ∃ l7a l7n l7c,e6 = .returned (.slice l7a l7n l7c) /\ (K (.slice l7a l7n l7c) w5))) (br (decide ((n4 : Int) < 0)) (Calls Tryz.prog 87 #[(.string s1),(.string s2)] w (en fun e9 w8 => ∃ n10,e9 = .returned (.int .i64 n10) /\ (F55_2 (fun y8_10 w12 => ∀ _g13 : Tm,rdC y8_10 fun l14a l14n l14c => K (.slice l14a l14n l14c) w12) (.string s1) (.string s2) (.int .i64 n3) (.int .i64 (IntKind.wrap .i64 (n10 + 1))) w8))) (F55_2 (fun y8_14 w16 => ∀ _g17 : Tm,rdC y8_14 fun l18a l18n l18c => K (.slice l18a l18n l18c) w16) (.string s1) (.string s2) (.int .i64 n3) (.int .i64 n4) w)))
theorem F55_step (x0 : Value) (x1 : Value) (x2 : Value) (x3 : Value) (w : World) (K : Value -> World -> Prop) : (F55 x0 x1 x2 x3 w K) = rsh [(0,(.one .str)),(1,(.one .str)),(2,(.one (.int .i64))),(3,(.one (.int .i64)))] (args0 #[x0,x1,x2,x3]) (fun t => vc Tryz.prog (orcOf [([0,0,1,1,1,1,1,1,1,1],F55_1O),([1,1,1,1],F55_2O)]) [] F55_code (retQ Tryz.prog Tryz.f55 K) t w) := by kernel_rfl
theorem F55_ok {x0 x1 x2 x3 : Value} {w : World} {K : Value -> World -> Prop} (h : F55 x0 x1 x2 x3 w K) : Calls Tryz.prog 55 #[x0,x1,x2,x3] w (rt K) := by
 rw [F55_step] at h
 exact Calls.mono (calls_of (c := F55_code) mixed Tryz.func55 rfl (nlt rfl) (vc_sound mixed (orcCons (π := [0,0,1,1,1,1,1,1,1,1]) F55_1_ok (orcCons (π := [1,1,1,1]) F55_2_ok (orcNil F55_code))) F55_code [] rfl F55_code_ok _ _ _ (rsh_out h))) fun _ _ => rv_none
noncomputable def F66_code : Code := Tryz.f66.body.getD .skip
theorem F66_code_ok : okC Tryz.prog Tryz.f66.ntmps F66_code = true := by kernel_rfl
def F66_1C (K0 : World -> Prop) (Kr : World -> Prop) : Post := fun o _ w => match o with | .normal => False | .exit i => (match Nat.beq i 0 with | true => K0  w | false => False) | .ret => Kr  w
def F66_1B (R : Value -> Value -> World -> Prop) (K0 : World -> Prop) (Kr : World -> Prop) (x0 : Value) (x1 : Value) (w : World) : Prop :=
 rdA x1 fun a1 => ldS a1 w fun s2 => br (decide (((ByteArray.size s2 : Int) : Int) > 0)) (ldS a1 w fun s3 => Calls Tryz.prog 67 #[(.string s3),(.int .u8 10)] w (en fun e5 w4 => ∃ n6,e5 = .returned (.int .i64 n6) /\ (br (decide ((n6 : Int) >= 0)) (drw w4 fun w7 => ldS a1 w7 fun s8 => slT s8 none (some (.int .i64 (IntKind.wrap .i64 (n6 + 1)))) fun s9 => ldS a1 w7 fun s10 => slT s10 (some (.int .i64 (IntKind.wrap .i64 (n6 + 1)))) none fun s11 => stc a1 (.string s11) w7 fun w12 => callV Tryz.prog x0 #[(.string s9)] w12 (.one (.one .bool)) fun r14 w13 => ∃ b15,r14 = (.bool b15) /\ (br (!b15) (Kr w13) (R x0 (.pointer (some a1)) w13))) (ldS a1 w4 fun s16 => stc a1 (.string ⟨#[]⟩) w4 fun w17 => callV Tryz.prog x0 #[(.string s16)] w17 (.one (.one .bool)) fun r19 w18 => ∃ b20,r19 = (.bool b20) /\ (br (!b20) (Kr w18) (R x0 (.pointer (some a1)) w18)))))) (K0 w)
def F66_1 (K0 : World -> Prop) (Kr : World -> Prop) : Nat -> Value -> Value -> World -> Prop
 | 0 => fun _ _ _ => False
 | n + 1 => F66_1B (F66_1 K0 Kr n) K0 Kr
def F66_1O (Q : Post) (t : Tm) (w : World) : Prop := ∃ n,F66_1 (fun w => ∀ g,rsh [] (upds g []) fun t => Q (.exit 0) t w) (fun w => ∀ g,rsh [] (upds g []) fun t => Q .ret t w) n (t 0) (t 1) w
theorem F66_1_step (K0 : World -> Prop) (Kr : World -> Prop) (n : Nat) (t : Tm) (w : World) : (F66_1 K0 Kr (n + 1) (t 0) (t 1) w) = rsh [(1,(.one .adr))] t (fun t => vc Tryz.prog (orcOf []) [0,0] (getAt F66_code [0,0]) (fun o t w => match o with | .normal => F66_1 K0 Kr n (t 0) (t 1) w | .exit i => F66_1C K0 Kr (.exit i) t w | .ret => F66_1C K0 Kr .ret t w) t w) := by kernel_rfl
theorem F66_1_ok : ∀ Q t w,F66_1O Q t w -> W Tryz.prog Tryz.f66.ntmps (getAt F66_code [0]) Q t w := by
 intro Q t w ⟨n,h⟩
 refine (W_loop (P := Tryz.prog) (b := getAt F66_code [0,0]) (Q := F66_1C (fun w => ∀ g,rsh [] (upds g []) fun t => Q (.exit 0) t w) (fun w => ∀ g,rsh [] (upds g []) fun t => Q .ret t w)) (G := fun n t w => F66_1 (fun w => ∀ g,rsh [] (upds g []) fun t => Q (.exit 0) t w) (fun w => ∀ g,rsh [] (upds g []) fun t => Q .ret t w) n (t 0) (t 1) w) (fun _ _ h => h) (fun n t w h => ?_) n t w h).mono ?_
 ·rw [F66_1_step] at h
  exact vc_sound mixed (orcNil F66_code) _ _ rfl (okC_at F66_code_ok [0,0]) _ _ _ (rsh_out h)
 ·intro o t w q
  cases o with
  | normal => exact q.elim
  | exit i =>
   unfold F66_1C at q
   simp only at q
   split at q
   ·rename_i hi
    rw [nbeq] at hi
    subst hi
    exact out_ok [] q
   ·exact q.elim
  | ret => exact out_ok [] q
def F66 (x0 : Value) (x1 : Value) (w : World) (K : Value -> World -> Prop) : Prop :=
 rdA x1 fun a1 => ∃ k8 : Nat,F66_1 (fun w3 => ∀ _g4 : Tm,K (.tuple #[]) w3) (fun w6 => ∀ _g7 : Tm,K (.tuple #[]) w6) k8 x0 (.pointer (some a1)) w
theorem F66_step (x0 : Value) (x1 : Value) (w : World) (K : Value -> World -> Prop) : (F66 x0 x1 w K) = rsh [(1,(.one .adr))] (args0 #[x0,x1]) (fun t => vc Tryz.prog (orcOf [([0],F66_1O)]) [] F66_code (retQ Tryz.prog Tryz.f66 K) t w) := by kernel_rfl
theorem F66_ok {x0 x1 : Value} {w : World} {K : Value -> World -> Prop} (h : F66 x0 x1 w K) : Calls Tryz.prog 66 #[x0,x1] w (rt K) := by
 rw [F66_step] at h
 exact Calls.mono (calls_of (c := F66_code) mixed Tryz.func66 rfl (nlt rfl) (vc_sound mixed (orcCons (π := [0]) F66_1_ok (orcNil F66_code)) F66_code [] rfl F66_code_ok _ _ _ (rsh_out h))) fun _ _ => rv_none
noncomputable def F67_code : Code := Tryz.f67.body.getD .skip
theorem F67_code_ok : okC Tryz.prog Tryz.f67.ntmps F67_code = true := by kernel_rfl
def F67 (x0 : Value) (x1 : Value) (w : World) (K : Value -> World -> Prop) : Prop :=
 rdS x0 fun s1 => rdI .u8 x1 fun n2 => Calls Tryz.prog 96 #[(.string s1),(.int .u8 n2)] w (en fun e4 w3 => ∃ n5,e4 = .returned (.int .i64 n5) /\ (K (.int .i64 n5) w3))
theorem F67_step (x0 : Value) (x1 : Value) (w : World) (K : Value -> World -> Prop) : (F67 x0 x1 w K) = rsh [(0,(.one .str)),(1,(.one (.int .u8)))] (args0 #[x0,x1]) (fun t => vc Tryz.prog (orcOf []) [] F67_code (retQ Tryz.prog Tryz.f67 K) t w) := by kernel_rfl
theorem F67_ok {x0 x1 : Value} {w : World} {K : Value -> World -> Prop} (h : F67 x0 x1 w K) : Calls Tryz.prog 67 #[x0,x1] w (rt K) := by
 rw [F67_step] at h
 exact Calls.mono (calls_of (c := F67_code) mixed Tryz.func67 rfl (nlt rfl) (vc_sound mixed (orcNil F67_code) F67_code [] rfl F67_code_ok _ _ _ (rsh_out h))) fun _ _ => rv_none
noncomputable def F68_code : Code := Tryz.f68.body.getD .skip
theorem F68_code_ok : okC Tryz.prog Tryz.f68.ntmps F68_code = true := by kernel_rfl
def F68 (x0 : Value) (x1 : Value) (w : World) (K : Value -> World -> Prop) : Prop :=
 rdS x0 fun s1 => rdS x1 fun s2 => Calls Tryz.prog 97 #[(.string s1),(.string s2)] w (en fun e4 w3 => ∃ b5,e4 = .returned (.bool b5) /\ (br (!b5) (K (.tuple #[(.string s1),(.bool false)]) w3) (slT s1 none (some (.int .i64 (IntKind.wrap .i64 ((ByteArray.size s1 : Int) - (ByteArray.size s2 : Int))))) fun s6 => K (.tuple #[(.string s6),(.bool true)]) w3)))
theorem F68_step (x0 : Value) (x1 : Value) (w : World) (K : Value -> World -> Prop) : (F68 x0 x1 w K) = rsh [(0,(.one .str)),(1,(.one .str))] (args0 #[x0,x1]) (fun t => vc Tryz.prog (orcOf []) [] F68_code (retQ Tryz.prog Tryz.f68 K) t w) := by kernel_rfl
theorem F68_ok {x0 x1 : Value} {w : World} {K : Value -> World -> Prop} (h : F68 x0 x1 w K) : Calls Tryz.prog 68 #[x0,x1] w (rt K) := by
 rw [F68_step] at h
 exact Calls.mono (calls_of (c := F68_code) mixed Tryz.func68 rfl (nlt rfl) (vc_sound mixed (orcNil F68_code) F68_code [] rfl F68_code_ok _ _ _ (rsh_out h))) fun _ _ => rv_none
noncomputable def F78_code : Code := Tryz.f78.body.getD .skip
theorem F78_code_ok : okC Tryz.prog Tryz.f78.ntmps F78_code = true := by kernel_rfl
def F78 (x0 : Value) (w : World) (K : Value -> World -> Prop) : Prop :=
 rdC x0 fun l1a l1n l1c => br (Option.isNone l1a) (K (.slice none 0 0) w) (∃ l2a l2n l2c,∃ w3,Sem.run Tryz.prog (Instr.buildSlice 84 0 #[]) w = .ok (.slice l2a l2n l2c) w3 /\ (∃ l4a l4n l4c w5,Sem.run Tryz.prog (Builtin.append_ #[84,84] 84 #[(.slice l2a l2n l2c),(.slice l1a l1n l1c)]) w3 = .ok (.slice l4a l4n l4c) w5 /\ (K (.slice l4a l4n l4c) w5)))
theorem F78_step (x0 : Value) (w : World) (K : Value -> World -> Prop) : (F78 x0 w K) = rsh [(0,(.one .slc))] (args0 #[x0]) (fun t => vc Tryz.prog (orcOf []) [] F78_code (retQ Tryz.prog Tryz.f78 K) t w) := by kernel_rfl
theorem F78_ok {x0 : Value} {w : World} {K : Value -> World -> Prop} (h : F78 x0 w K) : Calls Tryz.prog 78 #[x0] w (rt K) := by
 rw [F78_step] at h
 exact Calls.mono (calls_of (c := F78_code) mixed Tryz.func78 rfl (nlt rfl) (vc_sound mixed (orcNil F78_code) F78_code [] rfl F78_code_ok _ _ _ (rsh_out h))) fun _ _ => rv_none
noncomputable def F82_code : Code := Tryz.f82.body.getD .skip
theorem F82_code_ok : okC Tryz.prog Tryz.f82.ntmps F82_code = true := by kernel_rfl
def F82 (x0 : Value) (x1 : Value) (w : World) (K : Value -> World -> Prop) : Prop :=
 rdP x0 fun p1 => rdC x1 fun l2a l2n l2c => nn p1 fun a3 => ldC (a3.add 0) w fun l4a l4n l4c => ∃ l5a l5n l5c w6,Sem.run Tryz.prog (Builtin.append_ #[77,77] 77 #[(.slice l4a l4n l4c),(.slice l2a l2n l2c)]) w = .ok (.slice l5a l5n l5c) w6 /\ (nn p1 fun a7 => stc (a7.add 0) (.slice l5a l5n l5c) w6 fun w8 => K (.tuple #[]) w8)
theorem F82_step (x0 : Value) (x1 : Value) (w : World) (K : Value -> World -> Prop) : (F82 x0 x1 w K) = rsh [(0,(.one .ptr)),(1,(.one .slc))] (args0 #[x0,x1]) (fun t => vc Tryz.prog (orcOf []) [] F82_code (retQ Tryz.prog Tryz.f82 K) t w) := by kernel_rfl
theorem F82_ok {x0 x1 : Value} {w : World} {K : Value -> World -> Prop} (h : F82 x0 x1 w K) : Calls Tryz.prog 82 #[x0,x1] w (rt K) := by
 rw [F82_step] at h
 exact Calls.mono (calls_of (c := F82_code) mixed Tryz.func82 rfl (nlt rfl) (vc_sound mixed (orcNil F82_code) F82_code [] rfl F82_code_ok _ _ _ (rsh_out h))) fun _ _ => rv_none
noncomputable def F87_code : Code := Tryz.f87.body.getD .skip
theorem F87_code_ok : okC Tryz.prog Tryz.f87.ntmps F87_code = true := by kernel_rfl
def F87_1C (Kr : Value -> World -> Prop) : Post := fun o t w => match o with | .normal => False | .exit _ => (False) | .ret => Kr (t 4) w
def F87_1B (R : Value -> Value -> Value -> World -> Prop) (Kr : Value -> World -> Prop) (x0 : Value) (x1 : Value) (x5 : Value) (w : World) : Prop :=
 rdS x0 fun s1 => rdS x1 fun s2 => rdI .i64 x5 fun n3 => Calls Tryz.prog 88 #[(.string s1),(.string s2)] w (en fun e5 w4 => ∃ n6,e5 = .returned (.int .i64 n6) /\ (br (n6 == (-1)) (Kr (.int .i64 n3) w4) (slT s1 (some (.int .i64 (IntKind.wrap .i64 (n6 + (ByteArray.size s2 : Int))))) none fun s7 => R (.string s7) (.string s2) (.int .i64 (IntKind.wrap .i64 (n3 + 1))) w4)))
def F87_1 (Kr : Value -> World -> Prop) : Nat -> Value -> Value -> Value -> World -> Prop
 | 0 => fun _ _ _ _ => False
 | n + 1 => F87_1B (F87_1 Kr n) Kr
def F87_1O (Q : Post) (t : Tm) (w : World) : Prop := ∃ n,F87_1 (fun y4 w => ∀ g,rsh [(4,(.one (.int .i64)))] (upds g [(4,y4)]) fun t => Q .ret t w) n (t 0) (t 1) (t 5) w
theorem F87_1_step (Kr : Value -> World -> Prop) (n : Nat) (t : Tm) (w : World) : (F87_1 Kr (n + 1) (t 0) (t 1) (t 5) w) = rsh [(0,(.one .str)),(1,(.one .str)),(5,(.one (.int .i64)))] t (fun t => vc Tryz.prog (orcOf []) [0,0,1,1,1,1] (getAt F87_code [0,0,1,1,1,1]) (fun o t w => match o with | .normal => F87_1 Kr n (t 0) (t 1) (t 5) w | .exit i => F87_1C Kr (.exit i) t w | .ret => F87_1C Kr .ret t w) t w) := by kernel_rfl
theorem F87_1_ok : ∀ Q t w,F87_1O Q t w -> W Tryz.prog Tryz.f87.ntmps (getAt F87_code [0,1,1,1,1]) Q t w := by
 intro Q t w ⟨n,h⟩
 refine (W_loop (P := Tryz.prog) (b := getAt F87_code [0,0,1,1,1,1]) (Q := F87_1C (fun y4 w => ∀ g,rsh [(4,(.one (.int .i64)))] (upds g [(4,y4)]) fun t => Q .ret t w)) (G := fun n t w => F87_1 (fun y4 w => ∀ g,rsh [(4,(.one (.int .i64)))] (upds g [(4,y4)]) fun t => Q .ret t w) n (t 0) (t 1) (t 5) w) (fun _ _ h => h) (fun n t w h => ?_) n t w h).mono ?_
 ·rw [F87_1_step] at h
  exact vc_sound mixed (orcNil F87_code) _ _ rfl (okC_at F87_code_ok [0,0,1,1,1,1]) _ _ _ (rsh_out h)
 ·intro o t w q
  cases o with
  | normal => exact q.elim
  | exit i => exact q.elim
  | ret => exact out_ok [4] q
def F87 (x0 : Value) (x1 : Value) (w : World) (K : Value -> World -> Prop) : Prop :=
 rdS x0 fun s1 => rdS x1 fun s2 => br ((ByteArray.size s2 : Int) == 0) (Calls Tryz.prog 101 #[(.string s1)] w (en fun e4 w3 => ∃ n5,e4 = .returned (.int .i64 n5) /\ (K (.int .i64 (IntKind.wrap .i64 (n5 + 1))) w3))) (br ((ByteArray.size s2 : Int) == 1) (ixT s2 0 fun n6 => ∃ n8,∃ w7,Sem.run Tryz.prog (callFunc 103 #[(.string s1),(.int .u8 n6)]) w = .ok (.value (.int .i64 n8)) w7 /\ (K (.int .i64 n8) w7)) (∃ k13 : Nat,F87_1 (fun y4_8 w10 => ∀ _g11 : Tm,rdI .i64 y4_8 fun n12 => K (.int .i64 n12) w10) k13 (.string s1) (.string s2) (.int .i64 0) w))
theorem F87_step (x0 : Value) (x1 : Value) (w : World) (K : Value -> World -> Prop) : (F87 x0 x1 w K) = rsh [(0,(.one .str)),(1,(.one .str))] (args0 #[x0,x1]) (fun t => vc Tryz.prog (orcOf [([0,1,1,1,1],F87_1O)]) [] F87_code (retQ Tryz.prog Tryz.f87 K) t w) := by kernel_rfl
theorem F87_ok {x0 x1 : Value} {w : World} {K : Value -> World -> Prop} (h : F87 x0 x1 w K) : Calls Tryz.prog 87 #[x0,x1] w (rt K) := by
 rw [F87_step] at h
 exact Calls.mono (calls_of (c := F87_code) mixed Tryz.func87 rfl (nlt rfl) (vc_sound mixed (orcCons (π := [0,1,1,1,1]) F87_1_ok (orcNil F87_code)) F87_code [] rfl F87_code_ok _ _ _ (rsh_out h))) fun _ _ => rv_none
noncomputable def F88_code : Code := Tryz.f88.body.getD .skip
theorem F88_code_ok : okC Tryz.prog Tryz.f88.ntmps F88_code = true := by kernel_rfl
def F88 (x0 : Value) (x1 : Value) (w : World) (K : Value -> World -> Prop) : Prop :=
 rdS x0 fun s1 => rdS x1 fun s2 => Calls Tryz.prog 104 #[(.string s1),(.string s2)] w (en fun e4 w3 => ∃ n5,e4 = .returned (.int .i64 n5) /\ (K (.int .i64 n5) w3))
theorem F88_step (x0 : Value) (x1 : Value) (w : World) (K : Value -> World -> Prop) : (F88 x0 x1 w K) = rsh [(0,(.one .str)),(1,(.one .str))] (args0 #[x0,x1]) (fun t => vc Tryz.prog (orcOf []) [] F88_code (retQ Tryz.prog Tryz.f88 K) t w) := by kernel_rfl
theorem F88_ok {x0 x1 : Value} {w : World} {K : Value -> World -> Prop} (h : F88 x0 x1 w K) : Calls Tryz.prog 88 #[x0,x1] w (rt K) := by
 rw [F88_step] at h
 exact Calls.mono (calls_of (c := F88_code) mixed Tryz.func88 rfl (nlt rfl) (vc_sound mixed (orcNil F88_code) F88_code [] rfl F88_code_ok _ _ _ (rsh_out h))) fun _ _ => rv_none
noncomputable def F96_code : Code := Tryz.f96.body.getD .skip
theorem F96_code_ok : okC Tryz.prog Tryz.f96.ntmps F96_code = true := by kernel_rfl
def F96 (x0 : Value) (x1 : Value) (w : World) (K : Value -> World -> Prop) : Prop :=
 rdS x0 fun s1 => rdI .u8 x1 fun n2 => ∃ n4,∃ w3,Sem.run Tryz.prog (callFunc 112 #[(.string s1),(.int .u8 n2)]) w = .ok (.value (.int .i64 n4)) w3 /\ (K (.int .i64 n4) w3)
theorem F96_step (x0 : Value) (x1 : Value) (w : World) (K : Value -> World -> Prop) : (F96 x0 x1 w K) = rsh [(0,(.one .str)),(1,(.one (.int .u8)))] (args0 #[x0,x1]) (fun t => vc Tryz.prog (orcOf []) [] F96_code (retQ Tryz.prog Tryz.f96 K) t w) := by kernel_rfl
theorem F96_ok {x0 x1 : Value} {w : World} {K : Value -> World -> Prop} (h : F96 x0 x1 w K) : Calls Tryz.prog 96 #[x0,x1] w (rt K) := by
 rw [F96_step] at h
 exact Calls.mono (calls_of (c := F96_code) mixed Tryz.func96 rfl (nlt rfl) (vc_sound mixed (orcNil F96_code) F96_code [] rfl F96_code_ok _ _ _ (rsh_out h))) fun _ _ => rv_none
noncomputable def F97_code : Code := Tryz.f97.body.getD .skip
theorem F97_code_ok : okC Tryz.prog Tryz.f97.ntmps F97_code = true := by kernel_rfl
def F97 (x0 : Value) (x1 : Value) (w : World) (K : Value -> World -> Prop) : Prop :=
 rdS x0 fun s1 => rdS x1 fun s2 => br (decide (((ByteArray.size s1 : Int) : Int) >= (ByteArray.size s2 : Int))) (slT s1 (some (.int .i64 (IntKind.wrap .i64 ((ByteArray.size s1 : Int) - (ByteArray.size s2 : Int))))) none fun s3 => K (.bool (ByteArray.toList s3 == ByteArray.toList s2)) w) (K (.bool false) w)
theorem F97_step (x0 : Value) (x1 : Value) (w : World) (K : Value -> World -> Prop) : (F97 x0 x1 w K) = rsh [(0,(.one .str)),(1,(.one .str))] (args0 #[x0,x1]) (fun t => vc Tryz.prog (orcOf []) [] F97_code (retQ Tryz.prog Tryz.f97 K) t w) := by kernel_rfl
theorem F97_ok {x0 x1 : Value} {w : World} {K : Value -> World -> Prop} (h : F97 x0 x1 w K) : Calls Tryz.prog 97 #[x0,x1] w (rt K) := by
 rw [F97_step] at h
 exact Calls.mono (calls_of (c := F97_code) mixed Tryz.func97 rfl (nlt rfl) (vc_sound mixed (orcNil F97_code) F97_code [] rfl F97_code_ok _ _ _ (rsh_out h))) fun _ _ => rv_none
end Go.Proofs.YtilenpnpnbdndaaGreatDoor
