/- Own text: part of the shallow reading of the code and of the contracts that are proved over it. -/
import Derived.Test.YtilenpnpnbdndaaGreatDoorShDf
import Derived.KernelRfl
import Derived.Test.YtilenpnpnbdndaaGreatDoorSrN
import Derived.Lib.AtoiErrMem
import Derived.Lib.AppendIntMem
import Derived.Lib.ItoaLen
namespace Go.Proofs.YtilenpnpnbdndaaGreatDoor
open Go Go.Sh
set_option maxRecDepth 100000
set_option maxHeartbeats 4000000
attribute [local instance] Esc.none
noncomputable def F26_code : Code := Tryz.f26.body.getD .skip
theorem F26_code_ok : okC Tryz.prog Tryz.f26.ntmps F26_code = true := by kernel_rfl
def F26 (x0 : Value) (x1 : Value) (w : World) (K : Value -> World -> Prop) : Prop :=
 exR85 fun s1 => x0 = s1.v /\ (rdA x1 fun a2 => alc (.cells s1.c 86) w fun b3 w4 => ldI .i64 ((Addr.mk b3 0 none).add 0) w4 fun n5 => ldI .i64 (a2.add 0) w4 fun n6 => K (.bool (n5 == n6)) w4)
theorem F26_step (x0 : Value) (x1 : Value) (w : World) (K : Value -> World -> Prop) : (F26 x0 x1 w K) = rsh [(0,(.agg [(.int .i64),.str,.slc])),(1,(.one .adr))] (args0 #[x0,x1]) (fun t => vc Tryz.prog (orcOf []) [] F26_code (retQ Tryz.prog Tryz.f26 K) t w) := by kernel_rfl
theorem F26_ok {x0 x1 : Value} {w : World} {K : Value -> World -> Prop} (h : F26 x0 x1 w K) : Calls Tryz.prog 26 #[x0,x1] w (rt K) := by
 rw [F26_step] at h
 exact Calls.mono (calls_of (c := F26_code) mixed Tryz.func26 rfl (nlt rfl) (vc_sound mixed (orcNil F26_code) F26_code [] rfl F26_code_ok _ _ _ (rsh_out h))) fun _ _ => rv_none
noncomputable def F27_code : Code := Tryz.f27.body.getD .skip
theorem F27_code_ok : okC Tryz.prog Tryz.f27.ntmps F27_code = true := by kernel_rfl
def F27 (x0 : Value) (w : World) (K : Value -> World -> Prop) : Prop :=
 rdP x0 fun p1 => nn p1 fun a2 => ldC (a2.add 0) w fun l3a l3n l3c => Calls Tryz.prog 51 #[(.slice l3a l3n l3c),(.string ⟨#[32]⟩)] w (en fun e5 w4 => ∃ s6,e5 = .returned (.string s6) /\ (K (.string s6) w4))
theorem F27_step (x0 : Value) (w : World) (K : Value -> World -> Prop) : (F27 x0 w K) = rsh [(0,(.one .ptr))] (args0 #[x0]) (fun t => vc Tryz.prog (orcOf []) [] F27_code (retQ Tryz.prog Tryz.f27 K) t w) := by kernel_rfl
theorem F27_ok {x0 : Value} {w : World} {K : Value -> World -> Prop} (h : F27 x0 w K) : Calls Tryz.prog 27 #[x0] w (rt K) := by
 rw [F27_step] at h
 exact Calls.mono (calls_of (c := F27_code) mixed Tryz.func27 rfl (nlt rfl) (vc_sound mixed (orcNil F27_code) F27_code [] rfl F27_code_ok _ _ _ (rsh_out h))) fun _ _ => rv_none
noncomputable def F29_code : Code := Tryz.f29.body.getD .skip
theorem F29_code_ok : okC Tryz.prog Tryz.f29.ntmps F29_code = true := by kernel_rfl
def F29 (x0 : Value) (x1 : Value) (w : World) (K : Value -> World -> Prop) : Prop :=
 exR26 fun s1 => x0 = s1.v /\ (exR26 fun s2 => x1 = s2.v /\ (alc (.cells s1.c 27) w fun b3 w4 => alc (.cells s2.c 27) w4 fun b5 w6 => ldC ((Addr.mk b3 0 none).add 10) w6 fun l7a l7n l7c => ldC ((Addr.mk b5 0 none).add 10) w6 fun l8a l8n l8c => Calls Tryz.prog 52 #[(.slice l7a l7n l7c),(.slice l8a l8n l8c)] w6 (en fun e10 w9 => ∃ b11,e10 = .returned (.bool b11) /\ (br b11 (ldI .i64 ((Addr.mk b3 0 none).add 0) w9 fun n12 => ldI .i64 ((Addr.mk b5 0 none).add 0) w9 fun n13 => br (n12 == n13) (ldI .i64 ((Addr.mk b3 0 none).add 1) w9 fun n14 => ldI .i64 ((Addr.mk b5 0 none).add 1) w9 fun n15 => br (n14 == n15) (ldI .i64 ((Addr.mk b3 0 none).add 2) w9 fun n16 => ldI .i64 ((Addr.mk b5 0 none).add 2) w9 fun n17 => br (n16 == n17) (ldI .i64 ((Addr.mk b3 0 none).add 3) w9 fun n18 => ldI .i64 ((Addr.mk b5 0 none).add 3) w9 fun n19 => br (n18 == n19) (ldI .i64 ((Addr.mk b3 0 none).add 4) w9 fun n20 => ldI .i64 ((Addr.mk b5 0 none).add 4) w9 fun n21 => br (n20 == n21) (ldI .u8 ((Addr.mk b3 0 none).add 5) w9 fun n22 => ldI .u8 ((Addr.mk b5 0 none).add 5) w9 fun n23 => br (n22 == n23) (ldI .i64 ((Addr.mk b3 0 none).add 6) w9 fun n24 => ldI .i64 ((Addr.mk b5 0 none).add 6) w9 fun n25 => br (n24 == n25) (ldI .u16 ((Addr.mk b3 0 none).add 7) w9 fun n26 => ldI .u16 ((Addr.mk b5 0 none).add 7) w9 fun n27 => br (n26 == n27) (ldI .u32 ((Addr.mk b3 0 none).add 8) w9 fun n28 => ldI .u32 ((Addr.mk b5 0 none).add 8) w9 fun n29 => br (n28 == n29) (ldB ((Addr.mk b3 0 none).add 9) w9 fun b30 => ldB ((Addr.mk b5 0 none).add 9) w9 fun b31 => br (b30 == b31) (ldS ((Addr.mk b3 0 none).add 11) w9 fun s32 => ldS ((Addr.mk b5 0 none).add 11) w9 fun s33 => K (.bool (ByteArray.toList s32 == ByteArray.toList s33)) w9) (K (.bool false) w9)) (K (.bool false) w9)) (K (.bool false) w9)) (K (.bool false) w9)) (K (.bool false) w9)) (K (.bool false) w9)) (K (.bool false) w9)) (K (.bool false) w9)) (K (.bool false) w9)) (K (.bool false) w9)) (K (.bool false) w9)))))
theorem F29_step (x0 : Value) (x1 : Value) (w : World) (K : Value -> World -> Prop) : (F29 x0 x1 w K) = rsh [(0,(.agg [(.int .i64),(.int .i64),(.int .i64),(.int .i64),(.int .i64),(.int .u8),(.int .i64),(.int .u16),(.int .u32),.bool,.slc,.str])),(1,(.agg [(.int .i64),(.int .i64),(.int .i64),(.int .i64),(.int .i64),(.int .u8),(.int .i64),(.int .u16),(.int .u32),.bool,.slc,.str]))] (args0 #[x0,x1]) (fun t => vc Tryz.prog (orcOf []) [] F29_code (retQ Tryz.prog Tryz.f29 K) t w) := by kernel_rfl
theorem F29_ok {x0 x1 : Value} {w : World} {K : Value -> World -> Prop} (h : F29 x0 x1 w K) : Calls Tryz.prog 29 #[x0,x1] w (rt K) := by
 rw [F29_step] at h
 exact Calls.mono (calls_of (c := F29_code) mixed Tryz.func29 rfl (nlt rfl) (vc_sound mixed (orcNil F29_code) F29_code [] rfl F29_code_ok _ _ _ (rsh_out h))) fun _ _ => rv_none
noncomputable def F33_code : Code := Tryz.f33.body.getD .skip
theorem F33_code_ok : okC Tryz.prog Tryz.f33.ntmps F33_code = true := by kernel_rfl
def F33 (x0 : Value) (x1 : Value) (w : World) (K : Value -> World -> Prop) : Prop :=
 exR85 fun s1 => x0 = s1.v /\ (rdA x1 fun a2 => alc (.cells s1.c 86) w fun b3 w4 => ldS ((Addr.mk b3 0 none).add 1) w4 fun s5 => ldS a2 w4 fun s6 => K (.bool (ByteArray.toList s5 == ByteArray.toList s6)) w4)
theorem F33_step (x0 : Value) (x1 : Value) (w : World) (K : Value -> World -> Prop) : (F33 x0 x1 w K) = rsh [(0,(.agg [(.int .i64),.str,.slc])),(1,(.one .adr))] (args0 #[x0,x1]) (fun t => vc Tryz.prog (orcOf []) [] F33_code (retQ Tryz.prog Tryz.f33 K) t w) := by kernel_rfl
theorem F33_ok {x0 x1 : Value} {w : World} {K : Value -> World -> Prop} (h : F33 x0 x1 w K) : Calls Tryz.prog 33 #[x0,x1] w (rt K) := by
 rw [F33_step] at h
 exact Calls.mono (calls_of (c := F33_code) mixed Tryz.func33 rfl (nlt rfl) (vc_sound mixed (orcNil F33_code) F33_code [] rfl F33_code_ok _ _ _ (rsh_out h))) fun _ _ => rv_none
noncomputable def F47_code : Code := Tryz.f47.body.getD .skip
theorem F47_code_ok : okC Tryz.prog Tryz.f47.ntmps F47_code = true := by kernel_rfl
def F47_1C (K0 : World -> Prop) (Kr : Value -> World -> Prop) : Post := fun o t w => match o with | .normal => False | .exit i => (match Nat.beq i 0 with | true => K0  w | false => False) | .ret => Kr (t 6) w
def F47_1B (R : Value -> Value -> Value -> Value -> Value -> World -> Prop) (K0 : World -> Prop) (Kr : Value -> World -> Prop) (x1 : Value) (x2 : Value) (x15 : Value) (x16 : Value) (x17 : Value) (w : World) : Prop :=
 rdC x1 fun l1a l1n l1c => rdC x15 fun l2a l2n l2c => rdI .i64 x16 fun n3 => rdI .i64 x17 fun n4 => br (decide ((n4 : Int) < n3)) (ixS 12 l2a l2n n4 fun a5 => ldR26 a5 w fun s6 => alc (.cells ((R26.mk 0 0 0 0 0 0 0 0 0 false none 0 0 ⟨#[]⟩)).c 27) w fun b7 w8 => stcL (Addr.mk b7 0 none) 0 s6.l w8 fun w9 => ixS 12 l1a l1n n4 fun a10 => ldR26 a10 w9 fun s11 => alc (.cells ((R26.mk 0 0 0 0 0 0 0 0 0 false none 0 0 ⟨#[]⟩)).c 27) w9 fun b12 w13 => stcL (Addr.mk b12 0 none) 0 s11.l w13 fun w14 => ldR26 (Addr.mk b7 0 none) w14 fun s15 => ldR26 (Addr.mk b12 0 none) w14 fun s16 => callV Tryz.prog x2 #[s15.v,s16.v] w14 (.one (.one .bool)) fun r18 w17 => ∃ b19,r18 = (.bool b19) /\ (br (!b19) (Kr (.bool false) w17) (R (.slice l1a l1n l1c) x2 (.slice l2a l2n l2c) (.int .i64 n3) (.int .i64 (IntKind.wrap .i64 (n4 + 1))) w17))) (K0 w)
def F47_1 (K0 : World -> Prop) (Kr : Value -> World -> Prop) : Nat -> Value -> Value -> Value -> Value -> Value -> World -> Prop
 | 0 => fun _ _ _ _ _ _ => False
 | n + 1 => F47_1B (F47_1 K0 Kr n) K0 Kr
def F47_1O (Q : Post) (t : Tm) (w : World) : Prop := ∃ n,F47_1 (fun w => ∀ g,rsh [] (upds g []) fun t => Q (.exit 0) t w) (fun y6 w => ∀ g,rsh [(6,(.one .bool))] (upds g [(6,y6)]) fun t => Q .ret t w) n (t 1) (t 2) (t 15) (t 16) (t 17) w
theorem F47_1_step (K0 : World -> Prop) (Kr : Value -> World -> Prop) (n : Nat) (t : Tm) (w : World) : (F47_1 K0 Kr (n + 1) (t 1) (t 2) (t 15) (t 16) (t 17) w) = rsh [(1,(.one .slc)),(15,(.one .slc)),(16,(.one (.int .i64))),(17,(.one (.int .i64)))] t (fun t => vc Tryz.prog (orcOf []) [0,0,1,0,1,1] (getAt F47_code [0,0,1,0,1,1]) (fun o t w => match o with | .normal => F47_1 K0 Kr n (t 1) (t 2) (t 15) (t 16) (t 17) w | .exit i => F47_1C K0 Kr (.exit i) t w | .ret => F47_1C K0 Kr .ret t w) t w) := by kernel_rfl
theorem F47_1_ok : ∀ Q t w,F47_1O Q t w -> W Tryz.prog Tryz.f47.ntmps (getAt F47_code [0,1,0,1,1]) Q t w := by
 intro Q t w ⟨n,h⟩
 refine (W_loop (P := Tryz.prog) (b := getAt F47_code [0,0,1,0,1,1]) (Q := F47_1C (fun w => ∀ g,rsh [] (upds g []) fun t => Q (.exit 0) t w) (fun y6 w => ∀ g,rsh [(6,(.one .bool))] (upds g [(6,y6)]) fun t => Q .ret t w)) (G := fun n t w => F47_1 (fun w => ∀ g,rsh [] (upds g []) fun t => Q (.exit 0) t w) (fun y6 w => ∀ g,rsh [(6,(.one .bool))] (upds g [(6,y6)]) fun t => Q .ret t w) n (t 1) (t 2) (t 15) (t 16) (t 17) w) (fun _ _ h => h) (fun n t w h => ?_) n t w h).mono ?_
 ·rw [F47_1_step] at h
  exact vc_sound mixed (orcNil F47_code) _ _ rfl (okC_at F47_code_ok [0,0,1,0,1,1]) _ _ _ (rsh_out h)
 ·intro o t w q
  cases o with
  | normal => exact q.elim
  | exit i =>
   unfold F47_1C at q
   simp only at q
   split at q
   ·rename_i hi
    rw [nbeq] at hi
    subst hi
    exact out_ok [] q
   ·exact q.elim
  | ret => exact out_ok [6] q
def F47 (x0 : Value) (x1 : Value) (x2 : Value) (w : World) (K : Value -> World -> Prop) : Prop :=
 rdC x0 fun l1a l1n l1c => rdC x1 fun l2a l2n l2c => br ((l1n : Int) != (l2n : Int)) (K (.bool false) w) (∃ k10 : Nat,F47_1 (fun w4 => ∀ _g5 : Tm,K (.bool true) w4) (fun y6_5 w7 => ∀ _g8 : Tm,rdB y6_5 fun b9 => K (.bool b9) w7) k10 (.slice l2a l2n l2c) x2 (.slice l1a l1n l1c) (.int .i64 (l1n : Int)) (.int .i64 0) w)
theorem F47_step (x0 : Value) (x1 : Value) (x2 : Value) (w : World) (K : Value -> World -> Prop) : (F47 x0 x1 x2 w K) = rsh [(0,(.one .slc)),(1,(.one .slc))] (args0 #[x0,x1,x2]) (fun t => vc Tryz.prog (orcOf [([0,1,0,1,1],F47_1O)]) [] F47_code (retQ Tryz.prog Tryz.f47 K) t w) := by kernel_rfl
theorem F47_ok {x0 x1 x2 : Value} {w : World} {K : Value -> World -> Prop} (h : F47 x0 x1 x2 w K) : Calls Tryz.prog 47 #[x0,x1,x2] w (rt K) := by
 rw [F47_step] at h
 exact Calls.mono (calls_of (c := F47_code) mixed Tryz.func47 rfl (nlt rfl) (vc_sound mixed (orcCons (π := [0,1,0,1,1]) F47_1_ok (orcNil F47_code)) F47_code [] rfl F47_code_ok _ _ _ (rsh_out h))) fun _ _ => rv_none
noncomputable def F49_code : Code := Tryz.f49.body.getD .skip
theorem F49_code_ok : okC Tryz.prog Tryz.f49.ntmps F49_code = true := by kernel_rfl
def F49_1C (K0 : World -> Prop) (Kr : Value -> World -> Prop) : Post := fun o t w => match o with | .normal => False | .exit i => (match Nat.beq i 0 with | true => K0  w | false => False) | .ret => Kr (t 4) w
def F49_1B (R : Value -> Value -> Value -> Value -> World -> Prop) (K0 : World -> Prop) (Kr : Value -> World -> Prop) (x0 : Value) (x1 : Value) (x7 : Value) (x8 : Value) (w : World) : Prop :=
 rdC x0 fun l1a l1n l1c => rdI .i64 x7 fun n2 => rdI .i64 x8 fun n3 => br (decide ((n3 : Int) < n2)) (ixS 3 l1a l1n n3 fun a4 => ldR85 a4 w fun s5 => callV Tryz.prog x1 #[s5.v] w (.one (.one .bool)) fun r7 w6 => ∃ b8,r7 = (.bool b8) /\ (br b8 (Kr (.int .i64 n3) w6) (R (.slice l1a l1n l1c) x1 (.int .i64 n2) (.int .i64 (IntKind.wrap .i64 (n3 + 1))) w6))) (K0 w)
def F49_1 (K0 : World -> Prop) (Kr : Value -> World -> Prop) : Nat -> Value -> Value -> Value -> Value -> World -> Prop
 | 0 => fun _ _ _ _ _ => False
 | n + 1 => F49_1B (F49_1 K0 Kr n) K0 Kr
def F49_1O (Q : Post) (t : Tm) (w : World) : Prop := ∃ n,F49_1 (fun w => ∀ g,rsh [] (upds g []) fun t => Q (.exit 0) t w) (fun y4 w => ∀ g,rsh [(4,(.one (.int .i64)))] (upds g [(4,y4)]) fun t => Q .ret t w) n (t 0) (t 1) (t 7) (t 8) w
theorem F49_1_step (K0 : World -> Prop) (Kr : Value -> World -> Prop) (n : Nat) (t : Tm) (w : World) : (F49_1 K0 Kr (n + 1) (t 0) (t 1) (t 7) (t 8) w) = rsh [(0,(.one .slc)),(7,(.one (.int .i64))),(8,(.one (.int .i64)))] t (fun t => vc Tryz.prog (orcOf []) [0,0,1,0,1] (getAt F49_code [0,0,1,0,1]) (fun o t w => match o with | .normal => F49_1 K0 Kr n (t 0) (t 1) (t 7) (t 8) w | .exit i => F49_1C K0 Kr (.exit i) t w | .ret => F49_1C K0 Kr .ret t w) t w) := by kernel_rfl
theorem F49_1_ok : ∀ Q t w,F49_1O Q t w -> W Tryz.prog Tryz.f49.ntmps (getAt F49_code [0,1,0,1]) Q t w := by
 intro Q t w ⟨n,h⟩
 refine (W_loop (P := Tryz.prog) (b := getAt F49_code [0,0,1,0,1]) (Q := F49_1C (fun w => ∀ g,rsh [] (upds g []) fun t => Q (.exit 0) t w) (fun y4 w => ∀ g,rsh [(4,(.one (.int .i64)))] (upds g [(4,y4)]) fun t => Q .ret t w)) (G := fun n t w => F49_1 (fun w => ∀ g,rsh [] (upds g []) fun t => Q (.exit 0) t w) (fun y4 w => ∀ g,rsh [(4,(.one (.int .i64)))] (upds g [(4,y4)]) fun t => Q .ret t w) n (t 0) (t 1) (t 7) (t 8) w) (fun _ _ h => h) (fun n t w h => ?_) n t w h).mono ?_
 ·rw [F49_1_step] at h
  exact vc_sound mixed (orcNil F49_code) _ _ rfl (okC_at F49_code_ok [0,0,1,0,1]) _ _ _ (rsh_out h)
 ·intro o t w q
  cases o with
  | normal => exact q.elim
  | exit i =>
   unfold F49_1C at q
   simp only at q
   split at q
   ·rename_i hi
    rw [nbeq] at hi
    subst hi
    exact out_ok [] q
   ·exact q.elim
  | ret => exact out_ok [4] q
def F49 (x0 : Value) (x1 : Value) (w : World) (K : Value -> World -> Prop) : Prop :=
 rdC x0 fun l1a l1n l1c => ∃ k9 : Nat,F49_1 (fun w3 => ∀ _g4 : Tm,K (.int .i64 (-1)) w3) (fun y4_4 w6 => ∀ _g7 : Tm,rdI .i64 y4_4 fun n8 => K (.int .i64 n8) w6) k9 (.slice l1a l1n l1c) x1 (.int .i64 (l1n : Int)) (.int .i64 0) w
theorem F49_step (x0 : Value) (x1 : Value) (w : World) (K : Value -> World -> Prop) : (F49 x0 x1 w K) = rsh [(0,(.one .slc))] (args0 #[x0,x1]) (fun t => vc Tryz.prog (orcOf [([0,1,0,1],F49_1O)]) [] F49_code (retQ Tryz.prog Tryz.f49 K) t w) := by kernel_rfl
theorem F49_ok {x0 x1 : Value} {w : World} {K : Value -> World -> Prop} (h : F49 x0 x1 w K) : Calls Tryz.prog 49 #[x0,x1] w (rt K) := by
 rw [F49_step] at h
 exact Calls.mono (calls_of (c := F49_code) mixed Tryz.func49 rfl (nlt rfl) (vc_sound mixed (orcCons (π := [0,1,0,1]) F49_1_ok (orcNil F49_code)) F49_code [] rfl F49_code_ok _ _ _ (rsh_out h))) fun _ _ => rv_none
end Go.Proofs.YtilenpnpnbdndaaGreatDoor
namespace Go.Proofs.YtilenpnpnbdndaaGreatDoor
open Go Go.Sh Go.RowKit Go.Sort
set_option maxRecDepth 100000
attribute [local instance] Esc.none
theorem same_of_below {w w' : World} (h : Below w.heap.size w w') : Same w w' := ⟨h.os,h.tape,h.output,h.size,fun k hk _ => h.block k hk⟩
theorem same_of_grow {w : World} {k : Nat} {os : Array Obj} : Same w (grow (w.drewN k) os) := by
 refine ⟨?_,?_,?_,?_,?_⟩
 ·rfl
 ·rfl
 ·rfl
 ·show w.heap.size <= (w.heap ++ os).size
  simp
 ·intro i hi _
  show (w.heap ++ os)[i]? = w.heap[i]?
  rw [Array.getElem?_append,if_pos hi]
structure TB (W : World) : Prop where
 tab : Lib.TabIs Tryz.prog W "internal/strconv.uint64pow10" .u64 Lib.pow10Tab
 e4 : ∃ ev,W.cell? ⟨4,0,none⟩ = some ev /\ (ev = .nilIface \/ ∃ te pe,ev = .iface te pe)
 e5 : ∃ ev,W.cell? ⟨5,0,none⟩ = some ev /\ (ev = .nilIface \/ ∃ te pe,ev = .iface te pe)
theorem glob0 : Tryz.prog.globalNamed "internal/strconv.uint64pow10" = some 0 := by kernel_rfl
theorem TB.same {W w : World} (h : TB W) (hs : Same W w) : TB w := by
 have hc : ∀ g (ev : Value),W.cell? ⟨g,0,none⟩ = some ev -> w.cell? ⟨g,0,none⟩ = some ev := fun g ev hg => by
  unfold World.cell? at hg ⊢
  simp only at hg ⊢
  have hlt : g < W.heap.size := by
   rcases Nat.lt_or_ge g W.heap.size with h1 | h1
   ·exact h1
   ·rw [Array.getElem?_eq_none h1] at hg; simp at hg
  rw [hs.block g hlt id]
  exact hg
 obtain ⟨t,⟨v4,h4,i4⟩,⟨v5,h5,i5⟩⟩ := h
 refine ⟨?_,⟨v4,hc _ _ h4,i4⟩,⟨v5,hc _ _ h5,i5⟩⟩
 unfold Lib.TabIs World.var? at t ⊢
 rw [glob0] at t ⊢
 simp only [Option.bind_some] at t ⊢
 have hlt : 0 < W.heap.size := by
  rcases Nat.lt_or_ge 0 W.heap.size with h1 | h1
  ·exact h1
  ·rw [Array.getElem?_eq_none h1] at t; simp at t
 rw [hs.block 0 hlt id]
 exact t
section
variable {W w : World} {M : List HP}
theorem Hs.tb (h : Hs W M w) (hT : TB W) : TB w := hT.same h.old
def joined (ws : List ByteArray) : ByteArray := bs (Lib.join (ws.map bl) [32])
theorem c51 {a : Option Addr} {c : Nat} {ws : List ByteArray} (h : Hs W (slO 9 1 a ws.length c (wsV ws) :: M) w) (hn : ws.length <= 140737488355328) (hl : (joined ws).size <= 140737488355328) :
  Calls Tryz.prog 51 #[.slice a ws.length c,.string ⟨#[32]⟩] w (rt fun v w' => v = .string (joined ws) /\ Same w w') := by
 have hr := h.rdO 0 rfl
 obtain ⟨x,⟨hx,hy⟩,g,lo⟩ := h.look (i := 0) rfl
 have hlen := h.lenO 0 rfl
 rcases hy with ⟨rfl,h0,rfl,rfl⟩ | ⟨b,k,cur,rfl,rfl,h1,h2,h3,h4⟩
 ·have : ws = [] := List.length_eq_zero_iff.1 h0
  subst this
  exact (Any.strings_Join_none zJoin zExtra none 0 ⟨#[32]⟩ w).mono fun e w' ⟨he,hw⟩ => ⟨_,he,rfl,by rw [hw]; exact Fr.refl _⟩
 ·have hb : b < w.heap.size := by
   have := g b (.cells cur 9 (0,0)) (by simp)
   exact lt_of_blk this
  refine (Any.strings_Join zJoin zExtra b k c ws ⟨#[32]⟩ w (fun j x hj => ?_) hb hn (by omega) ?_).mono fun e w' ⟨he,hw⟩ => ⟨_,he,rfl,same_of_below hw⟩
  ·have := Rd.at hr (j := j) (u := .string x) (by simp [wsV,hj])
   rwa [add_mk] at this
  ·have : (joined ws).size = (Lib.join (ws.map bl) [32]).length := by rw [← bl_len]; rfl
   rw [this] at hl
   exact hl
theorem c27 {lb : Nat} {r : Bool} {ws : List ByteArray} (h : Hs W (lnP lb r ws :: M) w) (hn : ws.length <= 140737488355328) (hl : (joined ws).size <= 140737488355328) :
  Calls Tryz.prog 27 #[.pointer (some ⟨lb,0,none⟩)] w (rt fun v w' => v = .string (joined ws) /\ Hs W (lnP lb r ws :: M) w') := by
 refine F27_ok ?_
 obtain ⟨a,c,h1⟩ := ln_open h
 unfold F27
 simp only [rdP_mk,nn]
 refine h1.ldC 0 rfl rfl ?_
 refine cl (c51 (h1.focus (i := 1) rfl) hn hl) ?_
 rintro _ w2 ⟨rfl,hs⟩
 exact ⟨_,rfl,by first | rfl | trivial,h.same hs⟩
theorem c44 {n : Int} (hT : TB w) (h0 : -9223372036854775808 <= n) (h1 : n <= 9223372036854775807) : Calls Tryz.prog 44 #[.int .i64 n] w (rt fun v w' => v = .string (bs (Lib.itoa n)) /\ Same w w') :=
 (Any.strconv_Itoa zItoa n h0 h1 w hT.tab).mono fun _ _ ⟨he,_,_,hw⟩ => ⟨_,he,rfl,by rw [hw]; exact same_of_grow⟩
theorem sl24 {w : World} {b : Nat} {n : Nat} (hn : n <= 24) : Sem.run Tryz.prog (Instr.sliceAt 155 (.pointer (some (Addr.mk b 0 none))) none (some (.int .i64 (n : Int))) none) w = .ok (.slice (some ⟨b,0,none⟩) n 24) w := by
 have hal : Tryz.prog.arrayLen 155 = 24 := by simp [Program.arrayLen,Tryz.underlying155]
 have := run_sliceAt_array_h (P := Tryz.prog) w 155 ⟨b,0,none⟩ (by simp [Program.arrayLen,Program.elem,Tryz.underlying155]) .i64 (n : Int) (by omega) (by rw [hal]; omega)
 refine this.trans ?_
 simp [hal,Program.elem,Tryz.underlying155,slicedAt,Tryz.sizeOf5]
theorem c63 {u : Nat} (hT : TB w) (hu : u < 18446744073709551616) : Calls Tryz.prog 63 #[.int .u64 u,.int .i64 10] w (rt fun v w' => v = .string (bs (Lib.decDigits u)) /\ Same w w') := by
 refine F63_ok ?_
 unfold F63
 simp only [rdI_mk]
 have e0 : ((10 : Int) == 10) = true := rfl
 rw [e0,br_true,br_dec]
 refine ⟨fun hlt => ?_,fun hge => ?_⟩
 ·have e1 : IntKind.wrap .i64 (u : Int) = (u : Int) := wrap_i64 (by omega) (by omega)
  rw [e1]
  refine (Any.internal_strconv_small { zItoa with } u (by omega) w).mono ?_
  rintro e w' ⟨rfl,rfl⟩
  exact ⟨_,rfl,by first | rfl | trivial,Fr.refl _⟩
 ·have h20 := Lib.nDigits_le20 u hu
  have hH0 := Lib.holds_zero0 w 155 (Lib.nDigits u) (by omega)
  have hfmt := Any.internal_strconv_formatBase10 (P := Tryz.prog) (ρ := zItoa_ren) { zItoa with } w.heap.size 0 24 u (Array.replicate (Lib.nDigits u) 0) (w.alloc (.cells Lib.zeros24 155)) hH0 (by rw [Array.size_replicate]; exact Lib.lt_pow_nDigits u) hu (by rw [Array.size_replicate]; omega)
  rw [Array.size_replicate] at hfmt
  show alc (.cells Lib.zeros24 155 (0,0)) w _
  refine (Any.internal_strconv_numDigits (P := Tryz.prog) (ρ := zItoa_ren) { zItoa with } u (by omega) hu _ (Lib.tabIs_alloc hT.tab _)).mono ?_
  rintro e w1 ⟨rfl,rfl⟩
  refine ⟨_,rfl,_,_,_,_,sl24 (by omega),?_⟩
  refine hfmt.mono ?_
  rintro e w2 ⟨rfl,k,v',dk,rfl,hF⟩
  refine ⟨rfl,_,_,_,_,sl24 (by omega),?_⟩
  have hcv := run_convert_bytes_back (P := Tryz.prog) ((putRow (fun (b : UInt8) => Value.int .u8 (b.toNat : Int)) (w.alloc (.cells Lib.zeros24 155)) w.heap.size 0 dk).drewN k) 25 9 5 ⟨w.heap.size,0,none⟩ 24 (Lib.decDigits u) Tryz.underlying25 Tryz.underlying5 Tryz.underlying9 (fun j hj => by
   rw [Lib.row_is_numeral hF j hj,add_mk,World.cell?_drewN]
   exact cell?_putRow (fun (b : UInt8) => Value.int .u8 (b.toNat : Int)) _ w.heap.size 0 _ dk hH0 (by rw [hF.size,Array.size_replicate]) j (by rw [hF.size]; rw [Lib.decDigits_length] at hj; exact hj))
  rw [Lib.decDigits_length] at hcv
  refine ⟨_,_,hcv,?_⟩
  show _ /\ _
  refine ⟨by first | rfl | trivial,?_⟩
  obtain ⟨os',_,e⟩ := putRow_grow_new (fun (b : UInt8) => Value.int .u8 (b.toNat : Int)) w #[.cells Lib.zeros24 155] w.heap.size 0 dk (Nat.le_refl _)
  rw [alloc_eq_grow,e]
  exact same_of_grow (k := k)
theorem c40 {u : Nat} (hT : TB w) (hu : u < 18446744073709551616) : Calls Tryz.prog 40 #[.int .u64 u,.int .i64 10] w (rt fun v w' => v = .string (bs (Lib.decDigits u)) /\ Same w w') := by
 refine F40_ok ?_
 unfold F40
 simp only [rdI_mk]
 refine cl (c63 hT hu) ?_
 rintro _ w2 ⟨rfl,hs⟩
 exact ⟨_,rfl,by first | rfl | trivial,hs⟩
theorem c89 {s : ByteArray} (hT : TB w) (hs : s.size <= 281474976710656) : Calls Tryz.prog 89 #[.string s,.int .i64 10,.int .i64 64] w (rt fun v w' => Same w w' /\
  ((∃ u : Nat,Lib.parseUintB 64 (bl s) = .ok u /\ v = .tuple #[.int .u64 u,.nilIface]) \/ ((∀ u,Lib.parseUintB 64 (bl s) ≠ .ok u) /\ ∃ (n : Int) (T : TypeId) (q : Value),v = .tuple #[.int .u64 n,.iface T q]))) := by
 obtain ⟨t,⟨v4,h4,i4⟩,⟨v5,h5,i5⟩⟩ := hT
 cases he : Lib.parseUintB 64 (bl s) with
 | ok u =>
  refine (Any.strconv_ParseUint_10_at64_ok zParse s (by omega) u he w).mono fun e w' ⟨he,hw⟩ => ⟨_,he,?_,.inl ⟨u,rfl,rfl⟩⟩
  rcases hw with rfl | rfl
  ·exact Fr.refl _
  ·exact same_of_below (Lib.bytesWorld_below _ _ _)
 | range =>
  refine (Any.strconv_ParseUint_10_at64_range zParse s hs he v5 w h5 i5).mono fun e w' ⟨N,he,_,_,hw⟩ => ⟨_,he,same_of_below hw,.inr ⟨fun u hu => (nomatch hu),_,_,_,rfl⟩⟩
 | _ =>
  refine (Any.strconv_ParseUint_10_at64_syntax zParse s hs he v4 w h4 i4).mono fun e w' ⟨N,he,_,_,hw⟩ => ⟨_,he,same_of_below hw,.inr ⟨fun u hu => (nomatch hu),_,_,_,rfl⟩⟩
end
end Go.Proofs.YtilenpnpnbdndaaGreatDoor
