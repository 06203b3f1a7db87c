/- Own text: part of the shallow reading of the code and of the contracts that are proved over it. -/
import Derived.Test.YtilenpnpnbdndaaGreatDoorShR
import Derived.KernelRfl
import Derived.Test.YtilenpnpnbdndaaGreatDoorSuC
import Derived.Test.YtilenpnpnbdndaaGreatDoorSrP1
namespace Go.Proofs.YtilenpnpnbdndaaGreatDoor
open Go Go.Sh
set_option maxRecDepth 100000
set_option maxHeartbeats 4000000
attribute [local instance] Esc.none
noncomputable def F7_code : Code := Tryz.f7.body.getD .skip
theorem F7_code_ok : okC Tryz.prog Tryz.f7.ntmps F7_code = true := by kernel_rfl
def F7_1C (Kr : Value -> World -> Prop) : Post := fun o t w => match o with | .normal => False | .exit _ => (False) | .ret => Kr (t 6) w
def F7_1 (Kr : Value -> World -> Prop) (x2 : Value) (w : World) : Prop :=
 rdS x2 fun s1 => Calls Tryz.prog 20 #[(.string s1)] w (en fun e3 w2 => exR60 fun s4 => ∃ n5,∃ n6,e3 = .returned (.tuple #[s4.v,(.int .i64 n5),(.int .i64 n6)]) /\ (alc (.cells ((R60.mk 0 0 0 0 0 0 0 0 0 0 0 0 0 0 0 0 0 0 0 0 0 0 0 0 0 0 0 0 0 0 0 0 0 0 0 0 0 0 false false false 0 0 0 0 0 0 0 0 0 0 0 0 0 0 0 0 0 0 0 0 0 0 0 0 0 0 0 0 0 0 0 0 0 0 0 0 0 0 false false false none 0 0)).c 61) w2 fun b7 w8 => stcL (Addr.mk b7 0 none) 0 s4.l w8 fun w9 => br (n6 == 0) (ldR60 (Addr.mk b7 0 none) w9 fun s10 => Calls Tryz.prog 18 #[s10.v] w9 (en fun e12 w11 => ∃ s13,∃ n14,∃ n15,e12 = .returned (.tuple #[(.string s13),(.int .i64 n14),(.int .i64 n15)]) /\ (br (n15 != 0) (Kr (.bool false) w11) (br (!(ByteArray.toList s13 == ByteArray.toList s1)) (Kr (.bool false) w11) (Calls Tryz.prog 13 #[] w11 (en fun e17 w16 => ∃ b18,e17 = .returned (.bool b18) /\ (Kr (.bool b18) w16))))))) (Calls Tryz.prog 13 #[] w9 (en fun e20 w19 => ∃ b21,e20 = .returned (.bool b21) /\ (Kr (.bool b21) w19)))))
def F7_1O (Q : Post) (t : Tm) (w : World) : Prop := F7_1 (fun y6 w => ∀ g,rsh [(6,(.one .bool))] (upds g [(6,y6)]) fun t => Q .ret t w) (t 2) w
theorem F7_1_step (Kr : Value -> World -> Prop) (t : Tm) (w : World) : (F7_1 Kr (t 2) w) = rsh [(2,(.one .str))] t (fun t => vc Tryz.prog (orcOf []) [1,1,1,1] (getAt F7_code [1,1,1,1]) (F7_1C Kr) t w) := by kernel_rfl
theorem F7_1_ok : ∀ Q t w,F7_1O Q t w -> W Tryz.prog Tryz.f7.ntmps (getAt F7_code [1,1,1,1]) Q t w := by
 intro Q t w h
 unfold F7_1O at h
 rw [F7_1_step] at h
 refine (vc_sound mixed (orcNil F7_code) _ _ rfl (okC_at F7_code_ok [1,1,1,1]) _ _ _ (rsh_out h)).mono ?_
 intro o t w q
 cases o with
 | normal => exact q.elim
 | exit i => exact q.elim
 | ret => exact out_ok [6] q
def F7_2C (Kr : Value -> World -> Prop) : Post := fun o t w => match o with | .normal => False | .exit _ => (False) | .ret => Kr (t 6) w
def F7_2 (Kr : Value -> World -> Prop) (x2 : Value) (x3 : Value) (w : World) : Prop :=
 rdS x2 fun s1 => rdA x3 fun a2 => ldR60 a2 w fun s3 => Calls Tryz.prog 18 #[s3.v] w (en fun e5 w4 => ∃ s6,∃ n7,∃ n8,e5 = .returned (.tuple #[(.string s6),(.int .i64 n7),(.int .i64 n8)]) /\ (br (n8 == 0) (Calls Tryz.prog 20 #[(.string s6)] w4 (en fun e10 w9 => exR60 fun s11 => ∃ n12,∃ n13,e10 = .returned (.tuple #[s11.v,(.int .i64 n12),(.int .i64 n13)]) /\ (alc (.cells ((R60.mk 0 0 0 0 0 0 0 0 0 0 0 0 0 0 0 0 0 0 0 0 0 0 0 0 0 0 0 0 0 0 0 0 0 0 0 0 0 0 false false false 0 0 0 0 0 0 0 0 0 0 0 0 0 0 0 0 0 0 0 0 0 0 0 0 0 0 0 0 0 0 0 0 0 0 0 0 0 0 false false false none 0 0)).c 61) w9 fun b14 w15 => stcL (Addr.mk b14 0 none) 0 s11.l w15 fun w16 => br (n13 != 0) (Kr (.bool false) w16) (ldR60 (Addr.mk b14 0 none) w16 fun s17 => ldR60 a2 w16 fun s18 => Calls Tryz.prog 22 #[s17.v,s18.v] w16 (en fun e20 w19 => ∃ b21,e20 = .returned (.bool b21) /\ (br (!b21) (Kr (.bool false) w19) (F7_1 (fun y6_21 w23 => ∀ _g24 : Tm,rdB y6_21 fun b25 => Kr (.bool b25) w23) (.string s1) w19))))))) (F7_1 (fun y6_25 w27 => ∀ _g28 : Tm,rdB y6_25 fun b29 => Kr (.bool b29) w27) (.string s1) w4)))
def F7_2O (Q : Post) (t : Tm) (w : World) : Prop := F7_2 (fun y6 w => ∀ g,rsh [(6,(.one .bool))] (upds g [(6,y6)]) fun t => Q .ret t w) (t 2) (t 3) w
theorem F7_2_step (Kr : Value -> World -> Prop) (t : Tm) (w : World) : (F7_2 Kr (t 2) (t 3) w) = rsh [(2,(.one .str)),(3,(.one .adr))] t (fun t => vc Tryz.prog (orcOf [([1,1,1,1],F7_1O)]) [1,1] (getAt F7_code [1,1]) (F7_2C Kr) t w) := by kernel_rfl
theorem F7_2_ok : ∀ Q t w,F7_2O Q t w -> W Tryz.prog Tryz.f7.ntmps (getAt F7_code [1,1]) Q t w := by
 intro Q t w h
 unfold F7_2O at h
 rw [F7_2_step] at h
 refine (vc_sound mixed (orcCons (π := [1,1,1,1]) F7_1_ok (orcNil F7_code)) _ _ rfl (okC_at F7_code_ok [1,1]) _ _ _ (rsh_out h)).mono ?_
 intro o t w q
 cases o with
 | normal => exact q.elim
 | exit i => exact q.elim
 | ret => exact out_ok [6] q
def F7 (x0 : Value) (x1 : Value) (x2 : Value) (w : World) (K : Value -> World -> Prop) : Prop :=
 exR60 fun s1 => x0 = s1.v /\ (exR60 fun s2 => x1 = s2.v /\ (rdS x2 fun s3 => alc (.cells s1.c 61) w fun b4 w5 => alc (.cells s2.c 61) w5 fun b6 w7 => drw w7 fun w8 => ∃ w9 : World,Pres w9 w8 /\ (ldR60 (Addr.mk b4 0 none) w8 fun s10 => ldR60 (Addr.mk b6 0 none) w8 fun s11 => ldR60 (Addr.mk b4 0 none) w9 fun s12 => ldR60 (Addr.mk b6 0 none) w9 fun s13 => Calls Tryz.prog 23 #[s10.v,s11.v] w8 (en fun e15 w14 => ∃ b16,e15 = .returned (.bool b16) /\ (Pres w9 w14 /\ (Calls Tryz.prog 22 #[s12.v,s13.v] w14 (en fun e18 w17 => ∃ b19,e18 = .returned (.bool b19) /\ (br (!(b16 == b19)) (K (.bool false) w17) (ldR60 (Addr.mk b4 0 none) w17 fun s20 => ldR60 (Addr.mk b4 0 none) w17 fun s21 => Calls Tryz.prog 23 #[s20.v,s21.v] w17 (en fun e23 w22 => ∃ b24,e23 = .returned (.bool b24) /\ (br (!b24) (K (.bool false) w22) (F7_2 (fun y6_24 w26 => ∀ _g27 : Tm,rdB y6_24 fun b28 => K (.bool b28) w26) (.string s3) (.pointer (some (Addr.mk b4 0 none))) w22))))))))))))
theorem F7_step (x0 : Value) (x1 : Value) (x2 : Value) (w : World) (K : Value -> World -> Prop) : (F7 x0 x1 x2 w K) = rsh [(0,(.agg [(.int .u8),(.int .u8),(.int .u8),(.int .u8),(.int .u8),(.int .u8),(.int .u8),(.int .u8),(.int .u8),(.int .u8),(.int .u8),(.int .u8),(.int .u8),(.int .u8),(.int .u8),(.int .u8),(.int .u64),(.int .i64),(.int .u32),(.int .u16),(.int .u16),(.int .i64),(.int .i64),(.int .u16),(.int .u16),(.int .i64),(.int .i64),(.int .i64),(.int .i64),(.int .i64),(.int .i64),(.int .i64),(.int .i64),(.int .i64),(.int .i64),(.int .i64),(.int .i64),(.int .i64),.bool,.bool,.bool,(.int .u8),(.int .u8),(.int .u8),(.int .u8),(.int .u8),(.int .u8),(.int .u8),(.int .u8),(.int .u8),(.int .u8),(.int .u8),(.int .u8),(.int .u8),(.int .u8),(.int .u8),(.int .u8),(.int .u64),(.int .i64),(.int .u32),(.int .u16),(.int .u16),(.int .i64),(.int .i64),(.int .u16),(.int .u16),(.int .i64),(.int .i64),(.int .i64),(.int .i64),(.int .i64),(.int .i64),(.int .i64),(.int .i64),(.int .i64),(.int .i64),(.int .i64),(.int .i64),(.int .i64),.bool,.bool,.bool,.slc])),(1,(.agg [(.int .u8),(.int .u8),(.int .u8),(.int .u8),(.int .u8),(.int .u8),(.int .u8),(.int .u8),(.int .u8),(.int .u8),(.int .u8),(.int .u8),(.int .u8),(.int .u8),(.int .u8),(.int .u8),(.int .u64),(.int .i64),(.int .u32),(.int .u16),(.int .u16),(.int .i64),(.int .i64),(.int .u16),(.int .u16),(.int .i64),(.int .i64),(.int .i64),(.int .i64),(.int .i64),(.int .i64),(.int .i64),(.int .i64),(.int .i64),(.int .i64),(.int .i64),(.int .i64),(.int .i64),.bool,.bool,.bool,(.int .u8),(.int .u8),(.int .u8),(.int .u8),(.int .u8),(.int .u8),(.int .u8),(.int .u8),(.int .u8),(.int .u8),(.int .u8),(.int .u8),(.int .u8),(.int .u8),(.int .u8),(.int .u8),(.int .u64),(.int .i64),(.int .u32),(.int .u16),(.int .u16),(.int .i64),(.int .i64),(.int .u16),(.int .u16),(.int .i64),(.int .i64),(.int .i64),(.int .i64),(.int .i64),(.int .i64),(.int .i64),(.int .i64),(.int .i64),(.int .i64),(.int .i64),(.int .i64),(.int .i64),.bool,.bool,.bool,.slc])),(2,(.one .str))] (args0 #[x0,x1,x2]) (fun t => vc Tryz.prog (orcOf [([1,1,1,1],F7_1O),([1,1],F7_2O)]) [] F7_code (retQ Tryz.prog Tryz.f7 K) t w) := by kernel_rfl
theorem F7_ok {x0 x1 x2 : Value} {w : World} {K : Value -> World -> Prop} (h : F7 x0 x1 x2 w K) : Calls Tryz.prog 7 #[x0,x1,x2] w (rt K) := by
 rw [F7_step] at h
 exact Calls.mono (calls_of (c := F7_code) mixed Tryz.func7 rfl (nlt rfl) (vc_sound mixed (orcCons (π := [1,1,1,1]) F7_1_ok (orcCons (π := [1,1]) F7_2_ok (orcNil F7_code))) F7_code [] rfl F7_code_ok _ _ _ (rsh_out h))) fun _ _ => rv_none
end Go.Proofs.YtilenpnpnbdndaaGreatDoor
namespace Go.Proofs.YtilenpnpnbdndaaGreatDoor
open Go Go.Sh
set_option maxRecDepth 100000
attribute [local instance] Esc.none
theorem sameB_self (R : R26) (d : List UInt8) : sameB R d R d = true := by simp [sameB]
theorem sameDs_self : ∀ ds : List Dd,sameDs ds ds = true
 | [] => rfl
 | d :: ds => by rw [sameDs,sameB_self,sameDs_self ds]; rfl
theorem sameF_same (p q : R49) {ds es : List Dd} (h : sameDs ds es = true) : sameF p q ds p q es = true := by
 unfold sameF
 rw [eqvs_self (m49 p),eqvs_self (m49 q),h]
 rfl
section
variable {W w : World} {M : List HP} {p q p' q' : R49} {a a' : Option Addr} {c c' : Nat} {ds es : List Dd} {s : ByteArray}
theorem F7_1_go {Kr : Value -> World -> Prop} (hT : TB W) (h : Hs W M w) (hK : ∀ w',Same W w' -> Kr (.bool true) w') : F7_1 Kr (.string s) w := by
 unfold F7_1
 simp only [rdS_mk]
 refine cl (c20 hT h) ?_
 rintro _ w2 ⟨p,q,a,c,ds,I,E,rfl,hA,h2⟩
 refine exR60_of (mk60 p q a ds.length c) ⟨_,_,rfl,h2.alc fun b7 w8 h8 => h8.stcL 0 rfl (by rfl) fun w9 h9 => ?_⟩
 have h9 : Hs W (pt b7 (.cells (mk60 p q a ds.length c).c 61 (0,0)) :: slP 27 12 a ds.length c (ds.flatMap fun d => d.1.l) :: (ds.reverse.map (fun d => dtP W d.1.c d.2) ++ M)) w9 := h9
 by_cases hE : E = 0
 ·subst hE
  have e1 : ((0 : Int) == 0) = true := rfl
  rw [e1,br_true]
  refine ldR60_of (s := mk60 p q a ds.length c) (h9.atL 0 rfl) ?_
  refine cl (c18 (hT.same h9.old) (scr_of h9.drop hA)) ?_
  rintro _ w11 ⟨rfl,hs11⟩
  rw [read_print hA]
  refine ⟨_,_,_,rfl,?_⟩
  have e0 : ((0 : Int) != 0) = false := rfl
  rw [e0,br_false,str_beq,decide_eq_true rfl,Bool.not_true,br_false]
  have h11 := h9.same hs11
  refine cl (c13 (hT.same h11.old)) ?_
  rintro _ w16 ⟨rfl,hs16⟩
  exact ⟨_,rfl,hK _ (h11.same hs16).old⟩
 ·have e1 : (E == 0) = false := by simpa using hE
  rw [e1,br_false]
  refine cl (c13 (hT.same h9.old)) ?_
  rintro _ w16 ⟨rfl,hs16⟩
  exact ⟨_,rfl,hK _ (h9.same hs16).old⟩
theorem F7_2_go {Kr : Value -> World -> Prop} {b4 : Nat} (hT : TB W) (hS : ScrOk W p q a ds) (h : Hs W (pt b4 (.cells (mk60 p q a ds.length c).c 61 (0,0)) :: M) w) (hK : ∀ w',Same W w' -> Kr (.bool true) w') : F7_2 Kr (.string s) (.pointer (some ⟨b4,0,none⟩)) w := by
 unfold F7_2
 simp only [rdS_mk,rdA_mk]
 refine ldR60_of (s := mk60 p q a ds.length c) (h.atL 0 rfl) ?_
 refine cl (c18 (hT.same h.old) (hS.same h.old)) ?_
 rintro _ w4 ⟨rfl,hs4⟩
 have h4 := h.same hs4
 obtain ⟨t,I,E,hpf⟩ : ∃ t I E,printF p q ds = (t,I,E) := ⟨_,_,_,rfl⟩
 rw [hpf]
 refine ⟨_,_,_,rfl,?_⟩
 by_cases hE : E = 0
 ·subst hE
  have e1 : ((0 : Int) == 0) = true := rfl
  rw [e1,br_true]
  have hA0 := print_read hS.gp hS.gq hpf
  refine cl (c20 hT h4) ?_
  rintro _ w9 ⟨p',q',a',c',es,I',E',rfl,hA,h9⟩
  refine exR60_of (mk60 p' q' a' es.length c') ⟨_,_,rfl,h9.alc fun b14 w15 h15 => h15.stcL 0 rfl (by rfl) fun w16 h16 => ?_⟩
  have h16 : Hs W (pt b14 (.cells (mk60 p' q' a' es.length c').c 61 (0,0)) :: slP 27 12 a' es.length c' (es.flatMap fun d => d.1.l) :: (es.reverse.map (fun d => dtP W d.1.c d.2) ++ (pt b4 (.cells (mk60 p q a ds.length c).c 61 (0,0)) :: M))) w16 := h16
  obtain ⟨rfl,rfl,hsm,_,rfl⟩ := hA.one hA0
  have e0 : ((0 : Int) != 0) = false := rfl
  rw [e0,br_false]
  have hb := h16.drop.drop.dropL
  refine ldR60_of (s := mk60 p' q' a' es.length c') (h16.atL 0 rfl) (ldR60_of (s := mk60 p' q' a ds.length c) (hb.atL 0 rfl) ?_)
  refine cl (c22 (scr_of h16.drop hA) (hS.same h16.old) (by have := hA.parts.2.2.1; omega)) ?_
  rintro _ w19 ⟨rfl,hs19⟩
  refine ⟨_,rfl,?_⟩
  rw [sameF_same _ _ hsm,Bool.not_true,br_false]
  refine F7_1_go hT (h16.same hs19) fun w' hs' => ?_
  intro _
  simp only [rdB_mk]
  exact hK w' hs'
 ·have e1 : (E == 0) = false := by simpa using hE
  rw [e1,br_false]
  refine F7_1_go hT h4 fun w' hs' => ?_
  intro _
  simp only [rdB_mk]
  exact hK w' hs'
theorem c7 (hT : TB w) (hS : ScrOk w p q a ds) (hS' : ScrOk w p' q' a' es) (hl : ds.length <= 9223372036854775807) : Calls Tryz.prog 7 #[(mk60 p q a ds.length c).v,(mk60 p' q' a' es.length c').v,.string s] w (rt fun v w' => v = .bool true /\ Same w w') := by
 refine F7_ok ?_
 unfold F7
 refine exR60_of (mk60 p q a ds.length c) ⟨rfl,exR60_of (mk60 p' q' a' es.length c') ⟨rfl,?_⟩⟩
 simp only [rdS_mk]
 refine (Hs.start w).alc fun b4 w5 h5 => h5.alc fun b6 w7 h7 => h7.drw fun w8 h8 => ⟨w8,Pres.of_Same (Fr.refl w8),?_⟩
 refine ldR60_of (s := mk60 p q a ds.length c) (h8.atL 1 rfl) (ldR60_of (s := mk60 p' q' a' es.length c') (h8.atL 0 rfl) (ldR60_of (s := mk60 p q a ds.length c) (h8.atL 1 rfl) (ldR60_of (s := mk60 p' q' a' es.length c') (h8.atL 0 rfl) ?_)))
 refine cl (c23 (hS.same h8.old) (hS'.same h8.old) hl) ?_
 rintro _ w14 ⟨rfl,hs14⟩
 refine ⟨_,rfl,Pres.of_Same hs14,?_⟩
 have h14 := h8.same hs14
 refine cl (c22 (hS.same h14.old) (hS'.same h14.old) hl) ?_
 rintro _ w17 ⟨rfl,hs17⟩
 refine ⟨_,rfl,?_⟩
 have h17 := h14.same hs17
 have eb : ∀ b : Bool,(!(b == b)) = false := fun b => by cases b <;> rfl
 rw [eb,br_false]
 refine ldR60_of (s := mk60 p q a ds.length c) (h17.atL 1 rfl) (ldR60_of (s := mk60 p q a ds.length c) (h17.atL 1 rfl) ?_)
 refine cl (c23 (hS.same h17.old) (hS.same h17.old) hl) ?_
 rintro _ w22 ⟨rfl,hs22⟩
 refine ⟨_,rfl,?_⟩
 have h22 := h17.same hs22
 rw [sameF_same _ _ (sameDs_self ds),Bool.not_true,br_false]
 refine F7_2_go hT hS (h22.focus (i := 1) rfl) fun w' hs' => ?_
 intro _
 simp only [rdB_mk]
 exact ⟨by first | rfl | trivial,hs'⟩
end
end Go.Proofs.YtilenpnpnbdndaaGreatDoor
namespace Go.Proofs.YtilenpnpnbdndaaGreatDoor
open Go Go.Sh
open Go.ChangeShapes Go.WideShapes Go.ChangeAt Go.WideMaps Go.WideElems Go.RowKit
set_option maxRecDepth 100000
namespace Row7
theorem func : Tryz.prog.funcs[7]? = some Tryz.f7 := by kernel_rfl
theorem params : Tryz.f7.params.toList = [61,61,9] := by kernel_rfl
theorem reads (os : Os) {H : Type} (enc : TypeId × Value -> H) : ∃ places,DataW.whole enc Tryz.prog ((laidWorld os).forCall (fun _ _ => 0) ⟨#[],#[(R60.v (mk60 R49.zz R49.zz none 0 0)),(R60.v (mk60 R49.zz R49.zz none 0 0)),.string ⟨#[]⟩],[]⟩).memory Tryz.f7.params.toList Rows.scriptBackSpec.vars false (#[(R60.v (mk60 R49.zz R49.zz none 0 0)),(R60.v (mk60 R49.zz R49.zz none 0 0)),.string ⟨#[]⟩] : Array Value).toList 8 = some ([.agg [.agg [.agg [.agg [.agg [.lit (.int .u8 0),.lit (.int .u8 0),.lit (.int .u8 0),.lit (.int .u8 0),.lit (.int .u8 0),.lit (.int .u8 0),.lit (.int .u8 0),.lit (.int .u8 0),.lit (.int .u8 0),.lit (.int .u8 0),.lit (.int .u8 0),.lit (.int .u8 0),.lit (.int .u8 0),.lit (.int .u8 0),.lit (.int .u8 0),.lit (.int .u8 0)],.lit (.int .u64 0),.lit (.int .i64 0),.lit (.int .u32 0),.lit (.int .u16 0),.lit (.int .u16 0),.lit (.int .i64 0),.lit (.int .i64 0),.lit (.int .u16 0),.lit (.int .u16 0)],.lit (.int .i64 0),.lit (.int .i64 0),.lit (.int .i64 0),.agg [.lit (.int .i64 0),.lit (.int .i64 0),.lit (.int .i64 0)],.agg [.lit (.int .i64 0),.lit (.int .i64 0),.lit (.int .i64 0)],.lit (.int .i64 0),.lit (.int .i64 0),.lit (.int .i64 0),.lit (.int .i64 0),.lit (.bool false),.lit (.bool false),.lit (.bool false)],.agg [.agg [.agg [.lit (.int .u8 0),.lit (.int .u8 0),.lit (.int .u8 0),.lit (.int .u8 0),.lit (.int .u8 0),.lit (.int .u8 0),.lit (.int .u8 0),.lit (.int .u8 0),.lit (.int .u8 0),.lit (.int .u8 0),.lit (.int .u8 0),.lit (.int .u8 0),.lit (.int .u8 0),.lit (.int .u8 0),.lit (.int .u8 0),.lit (.int .u8 0)],.lit (.int .u64 0),.lit (.int .i64 0),.lit (.int .u32 0),.lit (.int .u16 0),.lit (.int .u16 0),.lit (.int .i64 0),.lit (.int .i64 0),.lit (.int .u16 0),.lit (.int .u16 0)],.lit (.int .i64 0),.lit (.int .i64 0),.lit (.int .i64 0),.agg [.lit (.int .i64 0),.lit (.int .i64 0),.lit (.int .i64 0)],.agg [.lit (.int .i64 0),.lit (.int .i64 0),.lit (.int .i64 0)],.lit (.int .i64 0),.lit (.int .i64 0),.lit (.int .i64 0),.lit (.int .i64 0),.lit (.bool false),.lit (.bool false),.lit (.bool false)]],.nil],.agg [.agg [.agg [.agg [.agg [.lit (.int .u8 0),.lit (.int .u8 0),.lit (.int .u8 0),.lit (.int .u8 0),.lit (.int .u8 0),.lit (.int .u8 0),.lit (.int .u8 0),.lit (.int .u8 0),.lit (.int .u8 0),.lit (.int .u8 0),.lit (.int .u8 0),.lit (.int .u8 0),.lit (.int .u8 0),.lit (.int .u8 0),.lit (.int .u8 0),.lit (.int .u8 0)],.lit (.int .u64 0),.lit (.int .i64 0),.lit (.int .u32 0),.lit (.int .u16 0),.lit (.int .u16 0),.lit (.int .i64 0),.lit (.int .i64 0),.lit (.int .u16 0),.lit (.int .u16 0)],.lit (.int .i64 0),.lit (.int .i64 0),.lit (.int .i64 0),.agg [.lit (.int .i64 0),.lit (.int .i64 0),.lit (.int .i64 0)],.agg [.lit (.int .i64 0),.lit (.int .i64 0),.lit (.int .i64 0)],.lit (.int .i64 0),.lit (.int .i64 0),.lit (.int .i64 0),.lit (.int .i64 0),.lit (.bool false),.lit (.bool false),.lit (.bool false)],.agg [.agg [.agg [.lit (.int .u8 0),.lit (.int .u8 0),.lit (.int .u8 0),.lit (.int .u8 0),.lit (.int .u8 0),.lit (.int .u8 0),.lit (.int .u8 0),.lit (.int .u8 0),.lit (.int .u8 0),.lit (.int .u8 0),.lit (.int .u8 0),.lit (.int .u8 0),.lit (.int .u8 0),.lit (.int .u8 0),.lit (.int .u8 0),.lit (.int .u8 0)],.lit (.int .u64 0),.lit (.int .i64 0),.lit (.int .u32 0),.lit (.int .u16 0),.lit (.int .u16 0),.lit (.int .i64 0),.lit (.int .i64 0),.lit (.int .u16 0),.lit (.int .u16 0)],.lit (.int .i64 0),.lit (.int .i64 0),.lit (.int .i64 0),.agg [.lit (.int .i64 0),.lit (.int .i64 0),.lit (.int .i64 0)],.agg [.lit (.int .i64 0),.lit (.int .i64 0),.lit (.int .i64 0)],.lit (.int .i64 0),.lit (.int .i64 0),.lit (.int .i64 0),.lit (.int .i64 0),.lit (.bool false),.lit (.bool false),.lit (.bool false)]],.nil],.lit (.string [])],[],places) :=
 ⟨[],by kernel_rfl⟩
theorem lifted (os : Os) (started : os.Started) (H : Type) (enc : TypeId × Value -> H) (F : Stop.Interp) :
  ReturnsInHanded {} Tryz.checked os 7 .any ((OpenSpec.ofChange Rows.scriptBackSpec).preRow enc Tryz.prog Tryz.f7 Rows.scriptBackRow.domain false Rows.scriptBackRow.laid) (((OpenSpec.ofChange Rows.scriptBackSpec).at F).post enc Tryz.prog Tryz.f7 false true false false) := by
 obtain ⟨places,hx⟩ := reads os enc
 refine returnsInHanded_of_row (C := Tryz.checked) (s := (OpenSpec.ofChange Rows.scriptBackSpec)) Row.own started (by kernel_rfl) func
  (witness_at (enc := enc) false (laidWorld os) #[(R60.v (mk60 R49.zz R49.zz none 0 0)),(R60.v (mk60 R49.zz R49.zz none 0 0)),.string ⟨#[]⟩] rfl (by kernel_rfl) (by kernel_rfl) (by kernel_rfl)
   (OpenSpec.preRow_of_cond 8 hx (by kernel_rfl) (fun k hk => by cases hk) (by kernel_rfl) (laid_met os _))) ?_
 intro W base args ds gs before hval0 hW _ hcond hz hL _ _
 have hval : ∀ (j : Nat) t v,Tryz.f7.params[j]? = some t -> args[j]? = some v -> Value.okWide Tryz.prog W .any base t v := hval0
 have hW' := hW
 obtain ⟨p,q,hA0,hV,rfl,hfz,hnd⟩ := hW
 have hA : DataW.TrodAll enc Tryz.prog W 0 (fun _ => true) true Tryz.f7.params.toList args.toList ds p := hA0
 rw [params] at hA
 have hwt := hz
 rw [params] at hwt
 obtain ⟨v0,v1,v2,d0,d1,d2,p0,p1,p2,rfl,rfl,rfl,h0,h1,h2⟩ := trodAll_three hA
 obtain ⟨rfl,rfl⟩ := trodVars_none hV
 clear hA0 hval0
 have ht := of_laid hL
 have hlt0 : ∀ x ∈ p0,x.block < W.heap.size := fun x hx => by simpa using hW'.lt x (by simp [hx])
 have h0k := h0
 have hlt1 : ∀ x ∈ p1,x.block < W.heap.size := fun x hx => by simpa using hW'.lt x (by simp [hx])
 have h1k := h1
 have hlt2 : ∀ x ∈ p2,x.block < W.heap.size := fun x hx => by simpa using hW'.lt x (by simp [hx])
 have h2k := h2
 obtain ⟨p0e,q0e,a0,ds0,c0,rfl,ok0,hl0⟩ := scr_in (hval 0 61 v0 (by kernel_rfl) rfl) (light_each hwt (j := 0) rfl rfl) h0
 obtain ⟨p1e,q1e,a1,ds1,c1,rfl,ok1,hl1⟩ := scr_in (hval 1 61 v1 (by kernel_rfl) rfl) (light_each hwt (j := 1) rfl rfl) h1
 obtain ⟨s2,rfl,rfl,rfl,hs2⟩ := open_text (hval 2 9 v2 (by kernel_rfl) rfl) h2
 have key := c7 (c := c0) (c' := c1) (s := s2) ht ok0 ok1 hl0
 refine key.mono fun e W' ⟨v,he,hv,hf⟩ => ?_
 subst he; subst hv
 have hbelow : Below W.heap.size W W' := hf.below (Nat.le_refl _) fun _ x => x.elim
 refine ⟨_,rfl,_,_,_,[],p0 ++ (p1 ++ ([])),[],hW',?_,?_,rfl,hbelow.frame _,fun h => by cases h⟩
 ·exact trodAll_mk1 (shut_bool Row.u4 _)
 ·exact trodAll_mk3 (Below.trod Row.laidOut (by kernel_rfl) (of_decide_eq_true (by kernel_rfl)) h0k hbelow hlt0) (Below.trod Row.laidOut (by kernel_rfl) (of_decide_eq_true (by kernel_rfl)) h1k hbelow hlt1) (Below.trod Row.laidOut (by kernel_rfl) (of_decide_eq_true (by kernel_rfl)) h2k hbelow hlt2)
theorem plain (f : FuncId) (fn : Func) (hf : Tryz.pinned.checked.prog.funcNamed "ropewalk/ropewalklaw25.ScriptBack" = some f) (hfn : Tryz.pinned.checked.prog.funcs[f]? = some fn) :
  true = Tryz.pinned.checked.prog.looks [] /\ ∀ (j : Nat) t,fn.params[j]? = some t -> Tryz.pinned.checked.prog.wantsStandIn t = false := by
 obtain rfl : f = 7 := Option.some.inj ((show Tryz.prog.funcNamed "ropewalk/ropewalklaw25.ScriptBack" = some 7 by kernel_rfl).symm.trans hf) |>.symm
 obtain rfl : fn = Tryz.f7 := (Option.some.inj (func.symm.trans hfn)).symm
 refine ⟨by kernel_rfl,fun j t ht => ?_⟩
 have hm : t ∈ [61,61,9] := by rw [← params]; simpa using Array.mem_of_getElem? ht
 have hall : ([61,61,9].all fun u => !Tryz.prog.wantsStandIn u) = true := by kernel_rfl
 exact (show Tryz.prog.wantsStandIn t = false by simpa using List.all_eq_true.1 hall t hm)
end Row7
theorem scriptBack_holds : Rows.ScriptBackSaid :=
 OpenClaim.holds_of_cond 7 Tryz.f7 rfl rfl rfl rfl rfl rfl rfl ⟨rfl,rfl,rfl,rfl,rfl⟩ rfl rfl rfl rfl rfl (by kernel_rfl) Row7.func (by kernel_rfl)
  (of_decide_eq_true (by kernel_rfl)) (by unfold Func.isWrapper; first | (rw [if_pos (by decide +kernel)]; kernel_rfl) | (rw [if_neg (by decide +kernel)]; exact ⟨rfl,rfl⟩))
  (fun os started H enc _ F => by rw [OpenClaim.pre_eq_preRow]; exact Row7.lifted os started H enc F)
theorem scriptBack_card : Rows.ScriptBackCardSaid :=
 Claim7.holds_tied_plain_at .later [] _ _ _ _ scriptBack_holds (fun _ h => by cases h) (by kernel_rfl) (fun _ h => by cases h) scriptBack_row_tie rfl ⟨rfl,rfl⟩ (by kernel_rfl) rfl Row7.plain (by kernel_rfl)
#print axioms scriptBack_card
end Go.Proofs.YtilenpnpnbdndaaGreatDoor
