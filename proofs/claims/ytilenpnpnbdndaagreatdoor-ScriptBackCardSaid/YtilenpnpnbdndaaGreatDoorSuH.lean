/- Own text: part of the shallow reading of the code and of the contracts that are proved over it. -/
import Derived.Test.YtilenpnpnbdndaaGreatDoorSuB
import Derived.Test.YtilenpnpnbdndaaGreatDoorSrQ4
import Derived.Test.YtilenpnpnbdndaaGreatDoorShR
import Derived.KernelRfl
import Derived.Test.YtilenpnpnbdndaaGreatDoorSuG
namespace Go.Proofs.YtilenpnpnbdndaaGreatDoor
open Go Go.Sh
set_option maxRecDepth 100000
attribute [local instance] Esc.none
def sameDs : List Dd -> List Dd -> Bool
 | [],[] => true
 | d :: ds,e :: es => sameB d.1 d.2 e.1 e.2 && sameDs ds es
 | _,_ => false
def sameF (p q : R49) (ds : List Dd) (p' q' : R49) (es : List Dd) : Bool := eqvs p.l p'.l && (eqvs q.l q'.l && sameDs ds es)
theorem sameDs_len : ∀ {ds es : List Dd},ds.length ≠ es.length -> sameDs ds es = false
 | [],[],h => absurd rfl h
 | [],_ :: _,_ => rfl
 | _ :: _,[],_ => rfl
 | d :: ds,e :: es,h => by
  rw [sameDs,sameDs_len (ds := ds) (es := es) (by simpa using h),Bool.and_false]
theorem t58 : deepT Tryz.prog 6 58 = true := by kernel_rfl
theorem k58 : kdsOf Tryz.prog 6 58 = some (ks49 ++ ks49) := by kernel_rfl
theorem mL_two : ∀ {ks ls : List Kd} {vs us : List Value},mL ks vs -> mL ls us -> mL (ks ++ ls) (vs ++ us)
 | [],_,[],_,_,h => h
 | [],_,_ :: _,_,h,_ => h.elim
 | _ :: _,_,[],_,h,_ => h.elim
 | _ :: _,_,_ :: _,_,h,h' => ⟨h.1,mL_two h.2 h'⟩
theorem m58 (p q : R49) : mL (ks49 ++ ks49) (mk58 p q).l := mL_two (m49 p) (m49 q)
section
variable {W w : World} {M : List HP} {p q p' q' : R49} {a a' : Option Addr} {c c' : Nat} {ds es : List Dd}
theorem eql58 {x y : Operand} : Sem.run Tryz.prog (binF Tryz.prog .eql 58 x y (mk58 p q).v (mk58 p' q').v) w = .ok (.bool (eqvs p.l p'.l && eqvs q.l q'.l)) w := by
 have := eql_deep (P := Tryz.prog) (w := w) (x := x) (y := y) t58 k58 (m58 p q) (m58 p' q')
 rw [mk58_l,mk58_l,eqvs_app (by rfl)] at this
 exact this
theorem neq50 {x y : Operand} : Sem.run Tryz.prog (binF Tryz.prog .neq 50 x y p.v p'.v) w = .ok (.bool (!eqvs p.l p'.l)) w :=
 neq_deep (P := Tryz.prog) (w := w) (x := x) (y := y) t50 k50 (m49 p) (m49 p')
theorem ok29 : okFn Tryz.prog 29 = true := by kernel_rfl
theorem F47_1_loop {K0 : World -> Prop} {Kr : Value -> World -> Prop} (hS : ScrOk W p q a ds) (hS' : ScrOk W p' q' a' es) (hle : ds.length = es.length) (hln : ds.length <= 9223372036854775807) :
  ∀ (d2 e2 d1 e1 : List Dd) (k : Nat) (w : World),ds = d1 ++ d2 -> es = e1 ++ e2 -> d1.length = e1.length -> d2.length < k -> Hs W M w ->
  (sameDs d2 e2 = true -> ∀ w',Hs W M w' -> K0 w') -> (sameDs d2 e2 = false -> ∀ w',Hs W M w' -> Kr (.bool false) w') ->
  F47_1 K0 Kr k (.slice a' es.length c') (.func (.func 29) #[] #[]) (.slice a ds.length c) (.int .i64 (ds.length : Int)) (.int .i64 (d1.length : Int)) w := by
 intro d2
 induction d2 with
 | nil =>
  intro e2 d1 e1 k w hd he h1 hk h hK _
  obtain ⟨k,rfl⟩ : ∃ n,k = n + 1 := ⟨k - 1,by omega⟩
  show F47_1B _ _ _ _ _ _ _ _ _
  unfold F47_1B
  simp only [rdC_mk,rdI_mk]
  rw [List.append_nil] at hd
  rw [hd,decide_eq_false (by omega),br_false]
  have : e2 = [] := by
   have := congrArg List.length hd
   have := congrArg List.length he
   rw [List.length_append] at this
   exact List.length_eq_zero_iff.1 (by omega)
  subst this
  exact hK rfl w h
 | cons d d2 ih =>
  intro e2 d1 e1 k w hd he h1 hk h hK hKr
  obtain ⟨k,rfl⟩ : ∃ n,k = n + 1 := ⟨k - 1,by omega⟩
  have hlen : ds.length = d1.length + (d2.length + 1) := by rw [hd]; simp
  have hlen2 : es.length = e1.length + e2.length := by rw [he]; simp
  obtain ⟨e,e2,rfl⟩ : ∃ e r,e2 = e :: r := by
   cases e2 with
   | nil => simp at hlen2; omega
   | cons e r => exact ⟨e,r,rfl⟩
  have hi : ds[d1.length]? = some d := by rw [hd]; simp
  have hj : es[d1.length]? = some e := by rw [he,h1]; simp
  have hm : d ∈ ds := List.mem_of_getElem? hi
  have hm' : e ∈ es := List.mem_of_getElem? hj
  show F47_1B _ _ _ _ _ _ _ _ _
  unfold F47_1B
  simp only [rdC_mk,rdI_mk]
  rw [decide_eq_true (by omega),br_true]
  obtain ⟨ad,rfl,hat⟩ := hS.at h.1 hi
  refine ixS_to (p := d1.length) rfl (by omega) ?_
  refine ldR26_of (s := d.1) hat ?_
  refine h.alc fun nb w2 h2 => h2.stcL 0 rfl (by rfl) fun w3 h3 => ?_
  have h3 : Hs W (pt nb (.cells d.1.c 27 (0,0)) :: M) w3 := h3
  obtain ⟨ad',rfl,hat'⟩ := hS'.at h3.1 hj
  refine ixS_to (p := d1.length) rfl (by omega) ?_
  refine ldR26_of (s := e.1) hat' ?_
  refine h3.alc fun nb2 w4 h4 => h4.stcL 0 rfl (by rfl) fun w5 h5 => ?_
  have h5 : Hs W (pt nb2 (.cells e.1.c 27 (0,0)) :: pt nb (.cells d.1.c 27 (0,0)) :: M) w5 := h5
  refine ldR26_of (s := d.1) (h5.atL 1 rfl) (ldR26_of (s := e.1) (h5.atL 0 rfl) ?_)
  refine callV_of ok29 (call_of (c29 h5 ((hS.holds d hm).same h5.old) ((hS'.holds e hm').same h5.old) (hS.len d hm)) ?_)
  rintro _ w6 ⟨v,rfl,rfl,h6⟩
  refine ⟨_,rfl,_,rfl,?_⟩
  have h7 : Hs W M w6 := h6.drop.drop
  cases hsm : sameB d.1 d.2 e.1 e.2 with
  | false =>
   rw [Bool.not_false,br_true]
   exact hKr (by rw [sameDs,hsm]; rfl) w6 h7
  | true =>
   rw [Bool.not_true,br_false]
   have e3 : IntKind.wrap .i64 ((d1.length : Int) + 1) = (((d1 ++ [d]).length : Nat) : Int) := by rw [wrap_i64 (by omega) (by omega)]; simp
   rw [e3]
   have es1 : sameDs (d :: d2) (e :: e2) = sameDs d2 e2 := by rw [sameDs,hsm,Bool.true_and]
   rw [es1] at hK hKr
   exact ih e2 (d1 ++ [d]) (e1 ++ [e]) k w6 (by rw [hd]; simp) (by rw [he]; simp) (by simp [h1]) (by simp at hk; omega) h7 hK hKr
theorem c47 (hS : ScrOk W p q a ds) (hS' : ScrOk W p' q' a' es) (hln : ds.length <= 9223372036854775807) (h : Hs W M w) : Calls Tryz.prog 47 #[.slice a ds.length c,.slice a' es.length c',.func (.func 29) #[] #[]] w (rt fun v w' => v = .bool (sameDs ds es) /\ Hs W M w') := by
 refine F47_ok ?_
 unfold F47
 simp only [rdC_mk]
 by_cases hle : ds.length = es.length
 ·have e0 : ((ds.length : Int) != (es.length : Int)) = false := by rw [hle]; simp
  rw [e0,br_false]
  refine ⟨ds.length + 1,F47_1_loop (M := M) hS hS' hle hln ds es [] [] _ w rfl rfl rfl (by omega) h (fun hs w' h' => ?_) (fun hs w' h' => ?_)⟩
  ·intro _
   exact ⟨by rw [hs],h'⟩
  ·intro _
   simp only [rdB_mk]
   exact ⟨by rw [hs],h'⟩
 ·have e0 : ((ds.length : Int) != (es.length : Int)) = true := by
   simp only [bne_iff_ne,ne_eq]
   omega
  rw [e0,br_true]
  exact ⟨by rw [sameDs_len hle],h⟩
theorem c23 (hS : ScrOk w p q a ds) (hS' : ScrOk w p' q' a' es) (hln : ds.length <= 9223372036854775807) : Calls Tryz.prog 23 #[(mk60 p q a ds.length c).v,(mk60 p' q' a' es.length c').v] w (rt fun v w' => v = .bool (sameF p q ds p' q' es) /\ Same w w') := by
 refine F23_ok ?_
 unfold F23
 refine exR60_of (mk60 p q a ds.length c) ⟨rfl,exR60_of (mk60 p' q' a' es.length c') ⟨rfl,?_⟩⟩
 refine (Hs.start w).alc fun b3 w4 h4 => h4.alc fun b5 w6 h6 => ?_
 refine ldR58_of (s := mk58 p q) (at_58 (h6.atL 1 rfl)) (ldR58_of (s := mk58 p' q') (at_58 (h6.atL 0 rfl)) ?_)
 refine ⟨_,_,eql58,?_⟩
 unfold sameF
 rw [← Bool.and_assoc]
 cases hb : (eqvs p.l p'.l && eqvs q.l q'.l) with
 | false =>
  rw [br_false]
  exact ⟨rfl,h6.old⟩
 | true =>
  rw [br_true]
  refine ldC_c (at_d (h6.atL 1 rfl)) (ldC_c (at_d (h6.atL 0 rfl)) ?_)
  refine cl (c47 hS hS' hln h6) ?_
  rintro _ w7 ⟨rfl,h7⟩
  exact ⟨_,rfl,by rw [Bool.true_and],h7.old⟩
theorem F22_1_loop {K0 : World -> Prop} {Kr : Value -> World -> Prop} {b3 b5 : Nat} (hS : ScrOk W p q a ds) (hS' : ScrOk W p' q' a' es) (hle : ds.length = es.length) (hln : ds.length <= 9223372036854775807) :
  ∀ (d2 e2 d1 e1 : List Dd) (k : Nat) (w : World),ds = d1 ++ d2 -> es = e1 ++ e2 -> d1.length = e1.length -> d2.length < k -> Hs W (pt b5 (.cells (mk60 p' q' a' es.length c').c 61 (0,0)) :: pt b3 (.cells (mk60 p q a ds.length c).c 61 (0,0)) :: M) w ->
  (sameDs d2 e2 = true -> ∀ w',Hs W M w' -> K0 w') -> (sameDs d2 e2 = false -> ∀ w',Hs W M w' -> Kr (.bool false) w') ->
  F22_1 K0 Kr k (.pointer (some ⟨b3,0,none⟩)) (.pointer (some ⟨b5,0,none⟩)) (.int .i64 (d1.length : Int)) w := by
 intro d2
 induction d2 with
 | nil =>
  intro e2 d1 e1 k w hd he h1 hk h hK _
  obtain ⟨k,rfl⟩ : ∃ n,k = n + 1 := ⟨k - 1,by omega⟩
  show F22_1B _ _ _ _ _ _ _
  unfold F22_1B
  simp only [rdA_mk,rdI_mk]
  refine ldC_c (at_d (h.atL 1 rfl)) ?_
  rw [List.append_nil] at hd
  rw [hd,decide_eq_false (by omega),br_false]
  have : e2 = [] := by
   have := congrArg List.length hd
   have := congrArg List.length he
   rw [List.length_append] at this
   exact List.length_eq_zero_iff.1 (by omega)
  subst this
  exact hK rfl w h.drop.drop
 | cons d d2 ih =>
  intro e2 d1 e1 k w hd he h1 hk h hK hKr
  obtain ⟨k,rfl⟩ : ∃ n,k = n + 1 := ⟨k - 1,by omega⟩
  have hlen : ds.length = d1.length + (d2.length + 1) := by rw [hd]; simp
  have hlen2 : es.length = e1.length + e2.length := by rw [he]; simp
  obtain ⟨e,e2,rfl⟩ : ∃ e r,e2 = e :: r := by
   cases e2 with
   | nil => simp at hlen2; omega
   | cons e r => exact ⟨e,r,rfl⟩
  have hi : ds[d1.length]? = some d := by rw [hd]; simp
  have hj : es[d1.length]? = some e := by rw [he,h1]; simp
  have hm : d ∈ ds := List.mem_of_getElem? hi
  have hm' : e ∈ es := List.mem_of_getElem? hj
  show F22_1B _ _ _ _ _ _ _
  unfold F22_1B
  simp only [rdA_mk,rdI_mk]
  refine ldC_c (at_d (h.atL 1 rfl)) ?_
  rw [decide_eq_true (by omega),br_true]
  refine h.drw fun w2 h2 => ?_
  refine ldC_c (at_d (h2.atL 1 rfl)) ?_
  obtain ⟨ad,rfl,hat⟩ := hS.at h2.1 hi
  refine ixS_to (p := d1.length) rfl (by omega) ?_
  refine ldR26_of (s := d.1) hat ?_
  refine ldC_c (at_d (h2.atL 0 rfl)) ?_
  obtain ⟨ad',rfl,hat'⟩ := hS'.at h2.1 hj
  refine ixS_to (p := d1.length) rfl (by omega) ?_
  refine ldR26_of (s := e.1) hat' ?_
  refine cl (c12 h2 ((hS.holds d hm).same h2.old) ((hS'.holds e hm').same h2.old)) ?_
  rintro _ w6 ⟨rfl,h6⟩
  refine ⟨_,rfl,?_⟩
  cases hsm : sameB d.1 d.2 e.1 e.2 with
  | false =>
   rw [Bool.not_false,br_true]
   exact hKr (by rw [sameDs,hsm]; rfl) w6 h6.drop.drop
  | true =>
   rw [Bool.not_true,br_false]
   have e3 : IntKind.wrap .i64 ((d1.length : Int) + 1) = (((d1 ++ [d]).length : Nat) : Int) := by rw [wrap_i64 (by omega) (by omega)]; simp
   rw [e3]
   have es1 : sameDs (d :: d2) (e :: e2) = sameDs d2 e2 := by rw [sameDs,hsm,Bool.true_and]
   rw [es1] at hK hKr
   exact ih e2 (d1 ++ [d]) (e1 ++ [e]) k w6 (by rw [hd]; simp) (by rw [he]; simp) (by simp [h1]) (by simp at hk; omega) h6 hK hKr
theorem c22 (hS : ScrOk w p q a ds) (hS' : ScrOk w p' q' a' es) (hln : ds.length <= 9223372036854775807) : Calls Tryz.prog 22 #[(mk60 p q a ds.length c).v,(mk60 p' q' a' es.length c').v] w (rt fun v w' => v = .bool (sameF p q ds p' q' es) /\ Same w w') := by
 refine F22_ok ?_
 unfold F22
 refine exR60_of (mk60 p q a ds.length c) ⟨rfl,exR60_of (mk60 p' q' a' es.length c') ⟨rfl,?_⟩⟩
 refine (Hs.start w).alc fun b3 w4 h4 => h4.alc fun b5 w6 h6 => ?_
 refine ⟨by decide,ldR49_of (s := p) (at_p (h6.atL 1 rfl)) ⟨by decide,ldR49_of (s := p') (at_p (h6.atL 0 rfl)) ⟨_,_,neq50,?_⟩⟩⟩
 unfold sameF
 cases hb : eqvs p.l p'.l with
 | false =>
  rw [Bool.not_false,br_true]
  exact ⟨rfl,h6.old⟩
 | true =>
  rw [Bool.not_true,br_false,Bool.true_and]
  refine ⟨by decide,ldR49_of (s := q) (at_q (h6.atL 1 rfl)) ⟨by decide,ldR49_of (s := q') (at_q (h6.atL 0 rfl)) ⟨_,_,neq50,?_⟩⟩⟩
  cases hb2 : eqvs q.l q'.l with
  | false =>
   rw [Bool.not_false,br_true]
   exact ⟨rfl,h6.old⟩
  | true =>
   rw [Bool.not_true,br_false,Bool.true_and]
   refine ldC_c (at_d (h6.atL 1 rfl)) (ldC_c (at_d (h6.atL 0 rfl)) ?_)
   by_cases hle : ds.length = es.length
   ·have e0 : ((ds.length : Int) != (es.length : Int)) = false := by rw [hle]; simp
    rw [e0,br_false]
    unfold F22_2
    simp only [rdA_mk]
    refine ⟨ds.length + 1,F22_1_loop (M := []) hS hS' hle hln ds es [] [] _ w6 rfl rfl rfl (by omega) h6 (fun hs w' h' => ?_) (fun hs w' h' => ?_)⟩
    ·intro _ _
     simp only [rdB_mk]
     exact ⟨by rw [hs],h'.old⟩
    ·intro _
     simp only [rdB_mk]
     intro _
     exact ⟨by rw [hs],h'.old⟩
   ·have e0 : ((ds.length : Int) != (es.length : Int)) = true := by
     simp only [bne_iff_ne,ne_eq]
     omega
    rw [e0,br_true]
    exact ⟨by rw [sameDs_len hle],h6.old⟩
end
end Go.Proofs.YtilenpnpnbdndaaGreatDoor
namespace Go.Proofs.YtilenpnpnbdndaaGreatDoor
open Go Go.Sh
set_option maxRecDepth 100000
set_option maxHeartbeats 4000000
attribute [local instance] Esc.none
noncomputable def F6_code : Code := Tryz.f6.body.getD .skip
theorem F6_code_ok : okC Tryz.prog Tryz.f6.ntmps F6_code = true := by kernel_rfl
def F6 (x0 : Value) (w : World) (K : Value -> World -> Prop) : Prop :=
 rdS x0 fun s1 => Calls Tryz.prog 20 #[(.string s1)] w (en fun e3 w2 => exR60 fun s4 => ∃ n5,∃ n6,e3 = .returned (.tuple #[s4.v,(.int .i64 n5),(.int .i64 n6)]) /\ (alc (.cells ((R60.mk 0 0 0 0 0 0 0 0 0 0 0 0 0 0 0 0 0 0 0 0 0 0 0 0 0 0 0 0 0 0 0 0 0 0 0 0 0 0 false false false 0 0 0 0 0 0 0 0 0 0 0 0 0 0 0 0 0 0 0 0 0 0 0 0 0 0 0 0 0 0 0 0 0 0 0 0 0 0 false false false none 0 0)).c 61) w2 fun b7 w8 => stcL (Addr.mk b7 0 none) 0 s4.l w8 fun w9 => Calls Tryz.prog 21 #[(.string s1)] w9 (en fun e11 w10 => exR60 fun s12 => ∃ n13,∃ n14,e11 = .returned (.tuple #[s12.v,(.int .i64 n13),(.int .i64 n14)]) /\ (alc (.cells ((R60.mk 0 0 0 0 0 0 0 0 0 0 0 0 0 0 0 0 0 0 0 0 0 0 0 0 0 0 0 0 0 0 0 0 0 0 0 0 0 0 false false false 0 0 0 0 0 0 0 0 0 0 0 0 0 0 0 0 0 0 0 0 0 0 0 0 0 0 0 0 0 0 0 0 0 0 0 0 0 0 false false false none 0 0)).c 61) w10 fun b15 w16 => stcL (Addr.mk b15 0 none) 0 s12.l w16 fun w17 => ldR60 (Addr.mk b7 0 none) w17 fun s18 => ldR60 (Addr.mk b15 0 none) w17 fun s19 => Calls Tryz.prog 22 #[s18.v,s19.v] w17 (en fun e21 w20 => ∃ b22,e21 = .returned (.bool b22) /\ (br b22 (br (n5 == n13) (br (n6 == n14) (Calls Tryz.prog 13 #[] w20 (en fun e24 w23 => ∃ b25,e24 = .returned (.bool b25) /\ (K (.bool b25) w23))) (K (.bool false) w20)) (K (.bool false) w20)) (K (.bool false) w20)))))))
theorem F6_step (x0 : Value) (w : World) (K : Value -> World -> Prop) : (F6 x0 w K) = rsh [(0,(.one .str))] (args0 #[x0]) (fun t => vc Tryz.prog (orcOf []) [] F6_code (retQ Tryz.prog Tryz.f6 K) t w) := by kernel_rfl
theorem F6_ok {x0 : Value} {w : World} {K : Value -> World -> Prop} (h : F6 x0 w K) : Calls Tryz.prog 6 #[x0] w (rt K) := by
 rw [F6_step] at h
 exact Calls.mono (calls_of (c := F6_code) mixed Tryz.func6 rfl (nlt rfl) (vc_sound mixed (orcNil F6_code) F6_code [] rfl F6_code_ok _ _ _ (rsh_out h))) fun _ _ => rv_none
end Go.Proofs.YtilenpnpnbdndaaGreatDoor
namespace Go.Proofs.YtilenpnpnbdndaaGreatDoor
open Go Go.Sh
set_option maxRecDepth 100000
attribute [local instance] Esc.none
section
variable {W w : World} {M : List HP} {p q : R49} {a : Option Addr} {c : Nat} {ds : List Dd} {b2 b14 i n from' : Nat} {s : ByteArray}
abbrev rfL (W : World) (b2 b14 : Nat) (p q : R49) (a : Option Addr) (c : Nat) (ds : List Dd) (M : List HP) : List HP :=
 pt b14 (.cells (mk60 p q a ds.length c).c 61 (0,0)) :: slP 27 12 a ds.length c (ds.flatMap fun d => d.1.l) :: pt b2 (.cells zero60 61 (0,0)) :: (ds.reverse.map (fun d => dtP W d.1.c d.2) ++ M)
theorem rf_fail (h : Hs W (rfL W b2 b14 p q a c ds M) w) : Hs W (pt b2 (.cells zero60 61 (0,0)) :: M) w := by
 have h12 := h.drop.drop
 have h13 : Hs W (ds.reverse.map (fun d => dtP W d.1.c d.2) ++ (pt b2 (.cells zero60 61 (0,0)) :: M)) w := h12.perm (List.perm_middle.symm)
 exact h13.dropL
theorem F21_1_go {Kn : Value -> Value -> Value -> Value -> Value -> Value -> World -> Prop} {Kr : Value -> Value -> Value -> World -> Prop} {e : Int} (hn' : n < 4611686018427387904) (hi : i < 4611686018427387904)
  (h : Hs W (rfL W b2 b14 p q a c ds M) w)
  (hn : e = 0 -> i ≠ s.size -> ds.length <= 65536 -> Kn (.string s) (.pointer (some ⟨b2,0,none⟩)) (.pointer (some ⟨b14,0,none⟩)) (.int .i64 ((n + 1 : Nat) : Int)) (.int .i64 ((i + 1 : Nat) : Int)) (.int .i64 (i : Int)) w)
  (hr : (e = 0 -> i ≠ s.size -> ¬ ds.length <= 65536) -> ∀ w',Hs W (pt b2 (.cells zero60 61 (0,0)) :: M) w' -> Kr (.pointer (some ⟨b2,0,none⟩)) (.int .i64 (n : Int)) (.int .i64 250) w') :
  F21_1 Kn Kr (.string s) (.pointer (some ⟨b2,0,none⟩)) (.pointer (some ⟨b14,0,none⟩)) (.int .i64 (n : Int)) (.int .i64 (i : Int)) (.int .i64 e) w := by
 unfold F21_1
 simp only [rdA_mk,rdS_mk,rdI_mk]
 have fail : ∀ {K : World -> Prop},(∀ w',Hs W (pt b2 (.cells zero60 61 (0,0)) :: M) w' -> K w') -> Go.Sh.stcL ⟨b2,0,none⟩ 0 (mk60 R49.zz R49.zz none 0 0).l w K := fun hk =>
  h.stcL 2 rfl (by rfl) fun w9 h9 => hk w9 (rf_fail (p := p) (q := q) (a := a) (c := c) (ds := ds) (b14 := b14) h9)
 by_cases he : e = 0
 ·subst he
  have e0 : ((0 : Int) != 0) = false := rfl
  rw [e0,br_false]
  by_cases hs : i = s.size
  ·have e1 : ((i : Int) == (s.size : Int)) = true := by rw [hs]; simp
   rw [e1,br_true]
   exact fail fun w' h' => hr (fun _ h => absurd hs h) w' h'
  ·have e1 : ((i : Int) == (s.size : Int)) = false := by
    simp only [beq_eq_false_iff_ne,ne_eq]
    omega
   rw [e1,br_false]
   refine ldC_c (at_d (h.atL 0 rfl)) ?_
   refine br_dec.2 ⟨fun hl => ?_,fun hl => ?_⟩
   ·exact fail fun w' h' => hr (fun _ _ => by omega) w' h'
   ·have e3 : IntKind.wrap .i64 ((n : Int) + 1) = ((n + 1 : Nat) : Int) := by rw [wrap_i64 (by omega) (by omega)]; simp
    have e4 : IntKind.wrap .i64 ((i : Int) + 1) = ((i + 1 : Nat) : Int) := by rw [wrap_i64 (by omega) (by omega)]; simp
    rw [e3,e4]
    exact hn rfl hs (by omega)
 ·have e0 : (e != 0) = true := by simpa using he
  rw [e0,br_true]
  exact fail fun w' h' => hr (fun h => absurd h he) w' h'
theorem F21_2_go {Kn : Value -> Value -> Value -> Value -> Value -> Value -> World -> Prop} {Kr : Value -> Value -> Value -> World -> Prop} {u : List UInt8} (hT : TB W) (hn' : n < 4611686018427387904) (hsz : s.size <= 4194304) (hl : ds.length <= 65536)
  (hfi : from' <= i) (his : i <= s.size) (hu : ((bl s).drop from').take (i - from') = u) (h : Hs W (rfL W b2 b14 p q a c ds M) w)
  (hn1 : n < 2 -> i ≠ s.size -> ∀ R,IsConf (bs u) R -> ∀ w',Hs W (rfL W b2 b14 (if n = 0 then R else p) (if n = 0 then q else R) a c ds M) w' ->
   Kn (.string s) (.pointer (some ⟨b2,0,none⟩)) (.pointer (some ⟨b14,0,none⟩)) (.int .i64 ((n + 1 : Nat) : Int)) (.int .i64 ((i + 1 : Nat) : Int)) (.int .i64 (i : Int)) w')
  (hn2 : 2 <= n -> i ≠ s.size -> ds.length + 1 <= 65536 -> ∀ (d : Dd) (a' : Option Addr) (c' : Nat),IsDeed (bs u) d.1 d.2 -> ∀ w',Hs W (rfL W b2 b14 p q a' c' (ds ++ [d]) M) w' ->
   Kn (.string s) (.pointer (some ⟨b2,0,none⟩)) (.pointer (some ⟨b14,0,none⟩)) (.int .i64 ((n + 1 : Nat) : Int)) (.int .i64 ((i + 1 : Nat) : Int)) (.int .i64 (i : Int)) w')
  (hr : (i ≠ s.size -> n < 2 -> ¬ ∃ R,IsConf (bs u) R) -> (i ≠ s.size -> 2 <= n -> ds.length + 1 <= 65536 -> ¬ ∃ R d,IsDeed (bs u) R d) -> ∀ w',Hs W (pt b2 (.cells zero60 61 (0,0)) :: M) w' ->
   Kr (.pointer (some ⟨b2,0,none⟩)) (.int .i64 (n : Int)) (.int .i64 250) w') :
  F21_2 Kn Kr (.string s) (.pointer (some ⟨b2,0,none⟩)) (.pointer (some ⟨b14,0,none⟩)) (.int .i64 (n : Int)) (.int .i64 (from' : Int)) (.int .i64 (i : Int)) w := by
 unfold F21_2
 simp only [rdA_mk,rdS_mk,rdI_mk]
 refine h.alc fun b7 w8 h8 => ?_
 have h8 : Hs W (pt b7 (.cells R26.zz.c 27 (0,0)) :: rfL W b2 b14 p q a c ds M) w8 := h8
 have hus : (bs u).size <= 8000000 := by
  show u.length <= _
  rw [← hu]
  have : (bl s).length = s.size := rfl
  simp
  omega
 refine br_dec.2 ⟨fun hi2 => ?_,fun hi2 => ?_⟩
 ·refine slT_mid hfi his ?_
  rw [hu]
  refine cl (c17q hT h8 hus) ?_
  rintro _ w15 ⟨R,N,rfl,hA,h15⟩
  refine exR49_of R ⟨_,rfl,?_⟩
  refine ⟨⟨by omega,by omega⟩,?_⟩
  rw [Int.toNat_natCast]
  have ea : ((Addr.mk b14 0 none).add 0).add (n * 41) = ⟨b14,n * 41,none⟩ := by simp [add_mk]
  rw [ea]
  refine put_end (by omega) h15 (k := 1) rfl fun w20 h20 => ?_
  have h20 : Hs W (rfL W b2 b14 (if n = 0 then R else p) (if n = 0 then q else R) a c ds M) w20 := h20.drop
  refine F21_1_go hn' (by omega) h20 (fun he hne _ => ?_) (fun hno w' h' => ?_)
  ·intro _
   simp only [rdA_mk,rdS_mk,rdI_mk]
   rcases hA with ⟨hC,_⟩ | ⟨_,_,hN⟩
   ·exact hn1 (by omega) hne R hC w20 h20
   ·rw [hN] at he; cases he
  ·intro _
   simp only [rdA_mk,rdI_mk]
   refine hr (fun hne _ => ?_) (fun _ h2 => by omega) w' h'
   rcases hA with ⟨hC,hN⟩ | ⟨hno2,_⟩
   ·exact absurd hl (hno hN hne)
   ·exact hno2
 ·refine slT_mid hfi his ?_
  rw [hu]
  refine cl (c11q hT h8 hus) ?_
  rintro _ w29 ⟨R,dat,N,rfl,hD,h29⟩
  refine exR26_of R ⟨_,rfl,?_⟩
  refine h29.stcL 1 rfl (by rfl) fun w33 h33 => ?_
  have h33 : Hs W (dtP W R.c dat :: pt b7 (.cells R.c 27 (0,0)) :: rfL W b2 b14 p q a c ds M) w33 := h33
  refine ldC_c (at_d (h33.atL 2 rfl)) ?_
  refine ldR26_of (s := R) (h33.atL 1 rfl) ?_
  unfold alc
  refine h33.push E59 3 rfl (news := R.c) rfl (by intro u hu; simp [R26.c] at hu; rcases hu with rfl | rfl | rfl | rfl | rfl | rfl | rfl | rfl | rfl | rfl | rfl | rfl <;> rfl) (by omega) (by omega) fun a' c' w39 h39 => ?_
  have h39 : Hs W (dtP W R.c dat :: pt b7 (.cells R.c 27 (0,0)) :: pt b14 (.cells (mk60 p q a ds.length c).c 61 (0,0)) :: slP 27 12 a' (ds.length + 1) c' (ds.flatMap (fun d => d.1.l) ++ R.l) :: pt b2 (.cells zero60 61 (0,0)) :: (ds.reverse.map (fun d => dtP W d.1.c d.2) ++ M)) w39 := h39
  refine h39.stc 2 rfl (by rw [R60.c_size]; show 0 + 82 < 83; omega) fun w40 h40 => ?_
  have h41 : Hs W (dtP W R.c dat :: pt b7 (.cells R.c 27 (0,0)) :: pt b14 (.cells (mk60 p q a' (ds.length + 1) c').c 61 (0,0)) :: slP 27 12 a' (ds.length + 1) c' (ds.flatMap (fun d => d.1.l) ++ R.l) :: pt b2 (.cells zero60 61 (0,0)) :: (ds.reverse.map (fun d => dtP W d.1.c d.2) ++ M)) w40 := h40
  have el : (ds ++ [(R,dat)]).length = ds.length + 1 := by simp
  have ef : (ds ++ [(R,dat)]).flatMap (fun d => d.1.l) = ds.flatMap (fun d => d.1.l) ++ R.l := by simp
  have h42 : Hs W (rfL W b2 b14 p q a' c' (ds ++ [(R,dat)]) M) w40 := by
   have h5 := h41.erase 1
   have h6 := Hs.behind (L := [pt b14 (.cells (mk60 p q a' (ds.length + 1) c').c 61 (0,0)),slP 27 12 a' (ds.length + 1) c' (ds.flatMap (fun d => d.1.l) ++ R.l),pt b2 (.cells zero60 61 (0,0))]) h5
   have er : (ds ++ [(R,dat)]).reverse = (R,dat) :: ds.reverse := by simp
   show Hs W (pt b14 (.cells (mk60 p q a' (ds ++ [(R,dat)]).length c').c 61 (0,0)) :: slP 27 12 a' (ds ++ [(R,dat)]).length c' ((ds ++ [(R,dat)]).flatMap fun d => d.1.l) :: _ :: ((ds ++ [(R,dat)]).reverse.map (fun d => dtP W d.1.c d.2) ++ M)) w40
   rw [el,ef,er]
   exact h6
  refine F21_1_go hn' (by omega) h42 (fun he hne hle => ?_) (fun hno w' h' => ?_)
  ·intro _
   simp only [rdA_mk,rdS_mk,rdI_mk]
   rcases hD with ⟨hC,_⟩ | ⟨_,_,_,hN⟩
   ·exact hn2 (by omega) hne (by rw [el] at hle; exact hle) (R,dat) a' c' hC w40 h42
   ·rw [hN] at he; cases he
  ·intro _
   simp only [rdA_mk,rdI_mk]
   refine hr (fun _ h2 => by omega) (fun hne _ hle => ?_) w' h'
   rcases hD with ⟨hC,hN⟩ | ⟨hno2,_⟩
   ·exact absurd (by rw [el]; exact hle) (hno hN hne)
   ·exact hno2
theorem F21_4_loop {K0 : Value -> Value -> World -> Prop} {Kr : Value -> Value -> Value -> World -> Prop} {ls : List (List UInt8)} {tl : List UInt8} (hT : TB W) (hsz : s.size <= 4194304) (_ : cutL (bl s) = (ls,tl))
  (hK : ∀ p q a c ds w',ReadB ls tl p q ds 0 0 -> Hs W (rfL W b2 b14 p q a c ds M) w' -> K0 (.pointer (some ⟨b2,0,none⟩)) (.pointer (some ⟨b14,0,none⟩)) w')
  (hKr : ∀ (n : Nat) w',ReadB ls tl R49.zz R49.zz [] (n : Int) 250 -> Hs W (pt b2 (.cells zero60 61 (0,0)) :: M) w' -> Kr (.pointer (some ⟨b2,0,none⟩)) (.int .i64 (n : Int)) (.int .i64 250) w') :
  ∀ (m i from' n k : Nat) (p q : R49) (a : Option Addr) (c : Nat) (ds : List Dd) (w : World),m = s.size - i -> m < k -> from' <= i -> i <= s.size -> n <= from' -> ls.drop n = (cutL ((bl s).drop from')).1 -> tl = (cutL ((bl s).drop from')).2 -> n <= ls.length ->
  10 ∉ ((bl s).drop from').take (i - from') -> (∀ j,j < n -> OkAt ls j) -> IsScr ls n p q ds -> ds.length <= 65536 -> Hs W (rfL W b2 b14 p q a c ds M) w ->
  F21_4 K0 Kr k (.string s) (.pointer (some ⟨b2,0,none⟩)) (.pointer (some ⟨b14,0,none⟩)) (.int .i64 (n : Int)) (.int .i64 (from' : Int)) (.int .i64 (i : Int)) w := by
 intro m
 have hbl : (bl s).length = s.size := rfl
 induction m with
 | zero =>
  intro i from' n k p q a c ds w hm hk hfi his hnf hls htl hnl hno hok hsc hdl h
  obtain ⟨k,rfl⟩ : ∃ n,k = n + 1 := ⟨k - 1,by omega⟩
  have hie : i = s.size := by omega
  show F21_4B _ _ _ _ _ _ _ _ _ _
  unfold F21_4B
  simp only [rdA_mk,rdS_mk,rdI_mk]
  rw [decide_eq_true (by omega),br_true,decide_eq_false (by omega),br_false]
  have hall : ((bl s).drop from').take (i - from') = (bl s).drop from' := List.take_of_length_le (by simp; omega)
  rw [hall] at hno
  have hcut := cutL_none _ hno
  have hln : ls.length = n := by
   have := congrArg List.length hls
   rw [hcut] at this
   simp at this
   omega
  have htl2 : tl = (bl s).drop from' := by rw [htl,hcut]
  unfold F21_3
  simp only [rdA_mk,rdS_mk,rdI_mk]
  have e1 : ((i : Int) == (s.size : Int)) = true := by rw [hie]; simp
  rw [e1,br_true]
  have go : (tl ≠ [] \/ n < 2) -> ∀ {Kn Kr'},(∀ w',ReadB ls tl R49.zz R49.zz [] (n : Int) 250 -> Hs W (pt b2 (.cells zero60 61 (0,0)) :: M) w' -> Kr' (.pointer (some ⟨b2,0,none⟩)) (.int .i64 (n : Int)) (.int .i64 250) w') ->
    F21_2 Kn Kr' (.string s) (.pointer (some ⟨b2,0,none⟩)) (.pointer (some ⟨b14,0,none⟩)) (.int .i64 (n : Int)) (.int .i64 (from' : Int)) (.int .i64 (i : Int)) w := fun hend Kn Kr' hr =>
   F21_2_go (u := (bl s).drop from') hT (by omega) hsz hdl hfi his hall h (fun _ hne => absurd hie hne) (fun _ hne => absurd hie hne) fun _ _ w' h' =>
    hr w' (.inr ⟨n,hok,.inr ⟨hln.symm,hend⟩,rfl,rfl,rfl,rfl,rfl⟩) h'
  have fin : ∀ w',ReadB ls tl R49.zz R49.zz [] (n : Int) 250 -> Hs W (pt b2 (.cells zero60 61 (0,0)) :: M) w' -> Kr (.pointer (some ⟨b2,0,none⟩)) (.int .i64 (n : Int)) (.int .i64 250) w' := hKr n
  by_cases hfe : from' = i
  ·have e2 : ((from' : Int) == (i : Int)) = true := by rw [hfe]; simp
   rw [e2,br_true]
   have htn : tl = [] := by rw [htl2,List.drop_eq_nil_of_le (by omega)]
   refine br_dec.2 ⟨fun hge => ?_,fun hlt => ?_⟩
   ·intro _
    exact hK p q a c ds w (.inl ⟨htn,by omega,fun j hj => hok j (by omega),by rw [hln]; exact hsc,rfl,rfl⟩) h
   ·refine go (.inr (by omega)) fun w' hR h' => ?_
    intro _
    simp only [rdA_mk,rdI_mk]
    intro _
    exact fin w' hR h'
  ·have e2 : ((from' : Int) == (i : Int)) = false := by
    simp only [beq_eq_false_iff_ne,ne_eq]
    omega
   rw [e2,br_false]
   refine go (.inl fun he => ?_) fun w' hR h' => ?_
   ·have := congrArg List.length (htl2.symm.trans he)
    simp at this
    omega
   ·intro _
    simp only [rdA_mk,rdI_mk]
    intro _
    exact fin w' hR h'
 | succ m ih =>
  intro i from' n k p q a c ds w hm hk hfi his hnf hls htl hnl hno hok hsc hdl h
  obtain ⟨k,rfl⟩ : ∃ n,k = n + 1 := ⟨k - 1,by omega⟩
  have hlt : i < s.size := by omega
  have hx : (bl s)[i]? = some ((bl s)[i]'(by omega)) := List.getElem?_eq_getElem _
  generalize (bl s)[i]'(by omega) = x at hx
  show F21_4B _ _ _ _ _ _ _ _ _ _
  unfold F21_4B
  simp only [rdA_mk,rdS_mk,rdI_mk]
  rw [decide_eq_true (by omega),br_true,decide_eq_true (by omega),br_true]
  refine ixT_bl hx ?_
  have e4 : IntKind.wrap .i64 ((i : Int) + 1) = ((i + 1 : Nat) : Int) := by rw [wrap_i64 (by omega) (by omega)]; simp
  have htk : ((bl s).drop from').take (i + 1 - from') = ((bl s).drop from').take (i - from') ++ [x] := by
   have : i + 1 - from' = (i - from') + 1 := by omega
   rw [this,List.take_add_one,List.getElem?_drop,show from' + (i - from') = i by omega,hx]
   rfl
  by_cases hx10 : x = 10
  ·subst hx10
   have e0 : ((((10 : UInt8).toNat : Nat) : Int) != 10) = false := rfl
   rw [e0,br_false]
   have hsplit : (bl s).drop from' = ((bl s).drop from').take (i - from') ++ 10 :: (bl s).drop (i + 1) := by
    have hd : (bl s).drop i = 10 :: (bl s).drop (i + 1) := by
     rw [List.drop_eq_getElem_cons (by omega)]
     rw [List.getElem?_eq_getElem (by omega)] at hx
     rw [Option.some.inj hx]
    conv => lhs; rw [← List.take_append_drop (i - from') ((bl s).drop from')]
    rw [List.drop_drop,show from' + (i - from') = i by omega,hd]
   obtain ⟨u,hu⟩ : ∃ u,u = ((bl s).drop from').take (i - from') := ⟨_,rfl⟩
   rw [← hu] at hno hsplit
   have hcut : cutL ((bl s).drop from') = (u :: (cutL ((bl s).drop (i + 1))).1,(cutL ((bl s).drop (i + 1))).2) := by
    rw [hsplit]
    exact cutL_cut _ _ hno
   have hun : ls[n]? = some u := by
    have := congrArg (·[0]?) hls
    rw [hcut] at this
    simpa using this
   have hnl2 : n < ls.length := (List.getElem?_eq_some_iff.1 hun).1
   have hls2 : ls.drop (n + 1) = (cutL ((bl s).drop (i + 1))).1 := by
    rw [← List.drop_drop,hls,hcut]
    rfl
   have htl3 : tl = (cutL ((bl s).drop (i + 1))).2 := by rw [htl,hcut]
   have hnone : 10 ∉ ((bl s).drop (i + 1)).take (i + 1 - (i + 1)) := by rw [Nat.sub_self,List.take_zero]; simp
   unfold F21_3
   simp only [rdA_mk,rdS_mk,rdI_mk]
   have e1 : ((i : Int) == (s.size : Int)) = false := by
    simp only [beq_eq_false_iff_ne,ne_eq]
    omega
   rw [e1,br_false]
   refine F21_2_go (u := u) hT (by omega) hsz hdl hfi his hu.symm h (fun hn2 _ R hR w' h' => ?_) (fun hn2 _ hle d a' c' hd w' h' => ?_) (fun hr1 hr2 w' h' => ?_)
   ·intro _
    simp only [rdA_mk,rdS_mk,rdI_mk]
    intro _
    rw [e4]
    refine ih (i + 1) (i + 1) (n + 1) k _ _ a c ds w' (by omega) (by omega) (Nat.le_refl _) (by omega) (by omega) hls2 htl3 hnl2 hnone (fun j hj => ?_) (hsc.endStep hn2 hun hR) hdl h'
    rcases Nat.lt_or_ge j n with h1 | h1
    ·exact hok j h1
    ·have : j = n := by omega
     subst this
     exact (OkAt.conf hun hn2).2 ⟨R,hR⟩
   ·intro _
    simp only [rdA_mk,rdS_mk,rdI_mk]
    intro _
    rw [e4]
    refine ih (i + 1) (i + 1) (n + 1) k _ _ a' c' (ds ++ [d]) w' (by omega) (by omega) (Nat.le_refl _) (by omega) (by omega) hls2 htl3 hnl2 hnone (fun j hj => ?_) (hsc.deedStep hn2 hun hd) (by simp; omega) h'
    rcases Nat.lt_or_ge j n with h1 | h1
    ·exact hok j h1
    ·have : j = n := by omega
     subst this
     exact (OkAt.deed hun hn2).2 ⟨by rw [← hsc.len]; exact hle,d.1,d.2,hd⟩
   ·intro _
    simp only [rdA_mk,rdI_mk]
    intro _
    refine hKr n w' (.inr ⟨n,hok,.inl ⟨hnl2,fun ho => ?_⟩,rfl,rfl,rfl,rfl,rfl⟩) h'
    rcases Nat.lt_or_ge n 2 with h1 | h1
    ·exact hr1 (by omega) h1 ((OkAt.conf hun h1).1 ho)
    ·obtain ⟨h8,h9⟩ := (OkAt.deed hun h1).1 ho
     exact hr2 (by omega) h1 (by rw [hsc.len]; exact h8) h9
  ·have e0 : (((x.toNat : Nat) : Int) != 10) = true := by
    simp only [bne_iff_ne,ne_eq]
    intro h
    exact hx10 (UInt8.toNat_inj.1 (by
      have : x.toNat = 10 := by omega
      exact this))
   rw [e0,br_true,e4]
   refine ih (i + 1) from' n k p q a c ds w (by omega) (by omega) (by omega) (by omega) hnf hls htl hnl ?_ hok hsc hdl h
   rw [htk]
   intro hm'
   rcases List.mem_append.1 hm' with h1 | h1
   ·exact hno h1
   ·simp at h1
    exact hx10 h1.symm
theorem c21 {s : ByteArray} (hT : TB W) (h : Hs W M w) : Calls Tryz.prog 21 #[.string s] w (rt fun v w' => ∃ p q a c ds I E,v = .tuple #[(mk60 p q a ds.length c).v,.int .i64 I,.int .i64 E] /\ ReadA s p q ds I E /\ Hs W (slP 27 12 a ds.length c (ds.flatMap fun d => d.1.l) :: (ds.reverse.map (fun d => dtP W d.1.c d.2) ++ M)) w') := by
 refine F21_ok ?_
 unfold F21
 simp only [rdS_mk]
 refine h.alc fun b2 w3 h3 => ?_
 have h3 : Hs W (pt b2 (.cells zero60 61 (0,0)) :: M) w3 := h3
 refine br_dec.2 ⟨fun hl => ?_,fun hl => ?_⟩
 ·refine h3.stcL 0 rfl (by rfl) fun w8 h8 => ?_
  refine ldR60_of (s := mk60 R49.zz R49.zz none 0 0) (h8.atL 0 rfl) ?_
  exact ⟨R49.zz,R49.zz,none,0,[],0,2,rfl,.inl ⟨by omega,rfl,rfl,rfl,rfl,rfl⟩,h8.drop.nil 27 12⟩
 ·refine h3.alc fun b14 w7 h7 => h7.stcL 0 rfl (by rfl) fun w8 h8 => ?_
  have h8 : Hs W (pt b14 (.cells zero60 61 (0,0)) :: pt b2 (.cells zero60 61 (0,0)) :: M) w8 := h8
  have h9 : Hs W (rfL W b2 b14 R49.zz R49.zz none 0 [] M) w8 := Hs.behind (L := [pt b14 (.cells zero60 61 (0,0))]) (h8.nil 27 12)
  obtain ⟨ls,tl,hcl⟩ : ∃ ls tl,cutL (bl s) = (ls,tl) := ⟨_,_,rfl⟩
  refine ⟨s.size + 1,?_⟩
  refine F21_4_loop (M := M) (ls := ls) (tl := tl) hT (by omega) hcl (fun p q a c ds w' hR h' => ?_) (fun n w' hR h' => ?_) s.size 0 0 0 _ R49.zz R49.zz none 0 [] w8 (by omega) (by omega) (Nat.le_refl _) (Nat.zero_le _) (Nat.le_refl _) (by rw [List.drop_zero,List.drop_zero,hcl]) (by rw [List.drop_zero,hcl]) (Nat.zero_le _) (by simp) (fun j hj => absurd hj (by omega)) (IsScr.start _ _ _) (by simp) h9
  ·intro _
   simp only [rdA_mk]
   refine ldR60_of (s := mk60 p q a ds.length c) (h'.atL 0 rfl) ?_
   refine h'.stcL 2 rfl (by rfl) fun w15 h15 => ?_
   have h15 : Hs W (pt b14 (.cells (mk60 p q a ds.length c).c 61 (0,0)) :: slP 27 12 a ds.length c (ds.flatMap fun d => d.1.l) :: pt b2 (.cells (mk60 p q a ds.length c).c 61 (0,0)) :: (ds.reverse.map (fun d => dtP W d.1.c d.2) ++ M)) w15 := h15
   refine ldR60_of (s := mk60 p q a ds.length c) (h15.atL 2 rfl) ?_
   exact ⟨p,q,a,c,ds,0,0,rfl,.inr ⟨by omega,by rw [hcl]; exact hR⟩,h15.drop.erase 1⟩
  ·intro _
   simp only [rdA_mk,rdI_mk]
   refine ldR60_of (s := mk60 R49.zz R49.zz none 0 0) (h'.atL 0 rfl) ?_
   exact ⟨R49.zz,R49.zz,none,0,[],(n : Int),250,rfl,.inr ⟨by omega,by rw [hcl]; exact hR⟩,h'.drop.nil 27 12⟩
end
end Go.Proofs.YtilenpnpnbdndaaGreatDoor
