/- Own text: part of the shallow reading of the code and of the contracts that are proved over it. -/
import Derived.Test.YtilenpnpnbdndaaGreatDoorShDf
import Derived.KernelRfl
import Derived.Test.YtilenpnpnbdndaaGreatDoorShO
import Derived.Test.YtilenpnpnbdndaaGreatDoorSqA
import Derived.DeepKeys
import Derived.Test.YtilenpnpnbdndaaGreatDoorRtM
import Derived.Lib.SlBytesConst
namespace Go.Proofs.YtilenpnpnbdndaaGreatDoor
open Go Go.Sh
set_option maxRecDepth 100000
set_option maxHeartbeats 4000000
attribute [local instance] Esc.none
noncomputable def F3_code : Code := Tryz.f3.body.getD .skip
theorem F3_code_ok : okC Tryz.prog Tryz.f3.ntmps F3_code = true := by kernel_rfl
def F3_1C (Kr : Value -> World -> Prop) : Post := fun o t w => match o with | .normal => False | .exit _ => (False) | .ret => Kr (t 4) w
def F3_1 (Kr : Value -> World -> Prop) (x2 : Value) (x5 : Value) (x8 : Value) (w : World) : Prop :=
 rdA x2 fun a1 => rdS x5 fun s2 => rdI .i64 x8 fun n3 => br (n3 != 0) (Calls Tryz.prog 13 #[] w (en fun e5 w4 => ∃ b6,e5 = .returned (.bool b6) /\ (Kr (.bool b6) w4))) (Calls Tryz.prog 10 #[(.string s2)] w (en fun e8 w7 => exR26 fun s9 => ∃ n10,e8 = .returned (.tuple #[s9.v,(.int .i64 n10)]) /\ (alc (.cells ((R26.mk 0 0 0 0 0 0 0 0 0 false none 0 0 ⟨#[]⟩)).c 27) w7 fun b11 w12 => stcL (Addr.mk b11 0 none) 0 s9.l w12 fun w13 => br (n10 == 0) (ldR26 (Addr.mk b11 0 none) w13 fun s14 => ldR26 a1 w13 fun s15 => Calls Tryz.prog 12 #[s14.v,s15.v] w13 (en fun e17 w16 => ∃ b18,e17 = .returned (.bool b18) /\ (br b18 (Calls Tryz.prog 13 #[] w16 (en fun e20 w19 => ∃ b21,e20 = .returned (.bool b21) /\ (Kr (.bool b21) w19))) (Kr (.bool false) w16)))) (Kr (.bool false) w13))))
def F3_1O (Q : Post) (t : Tm) (w : World) : Prop := F3_1 (fun y4 w => ∀ g,rsh [(4,(.one .bool))] (upds g [(4,y4)]) fun t => Q .ret t w) (t 2) (t 5) (t 8) w
theorem F3_1_step (Kr : Value -> World -> Prop) (t : Tm) (w : World) : (F3_1 Kr (t 2) (t 5) (t 8) w) = rsh [(2,(.one .adr)),(5,(.one .str)),(8,(.one (.int .i64)))] t (fun t => vc Tryz.prog (orcOf []) [1,1,1,1,1,1] (getAt F3_code [1,1,1,1,1,1]) (F3_1C Kr) t w) := by kernel_rfl
theorem F3_1_ok : ∀ Q t w,F3_1O Q t w -> W Tryz.prog Tryz.f3.ntmps (getAt F3_code [1,1,1,1,1,1]) Q t w := by
 intro Q t w h
 unfold F3_1O at h
 rw [F3_1_step] at h
 refine (vc_sound mixed (orcNil F3_code) _ _ rfl (okC_at F3_code_ok [1,1,1,1,1,1]) _ _ _ (rsh_out h)).mono ?_
 intro o t w q
 cases o with
 | normal => exact q.elim
 | exit i => exact q.elim
 | ret => exact out_ok [4] q
def F3 (x0 : Value) (x1 : Value) (w : World) (K : Value -> World -> Prop) : Prop :=
 exR26 fun s1 => x0 = s1.v /\ (rdS x1 fun s2 => alc (.cells s1.c 27) w fun b3 w4 => ldR26 (Addr.mk b3 0 none) w4 fun s5 => Calls Tryz.prog 8 #[s5.v] w4 (en fun e7 w6 => ∃ s8,∃ n9,e7 = .returned (.tuple #[(.string s8),(.int .i64 n9)]) /\ (ldR26 (Addr.mk b3 0 none) w6 fun s10 => Calls Tryz.prog 9 #[s10.v] w6 (en fun e12 w11 => ∃ s13,∃ n14,e12 = .returned (.tuple #[(.string s13),(.int .i64 n14)]) /\ (Calls Tryz.prog 10 #[(.string s2)] w11 (en fun e16 w15 => exR26 fun s17 => ∃ n18,e16 = .returned (.tuple #[s17.v,(.int .i64 n18)]) /\ (alc (.cells ((R26.mk 0 0 0 0 0 0 0 0 0 false none 0 0 ⟨#[]⟩)).c 27) w15 fun b19 w20 => stcL (Addr.mk b19 0 none) 0 s17.l w20 fun w21 => Calls Tryz.prog 11 #[(.string s2)] w21 (en fun e23 w22 => exR26 fun s24 => ∃ n25,e23 = .returned (.tuple #[s24.v,(.int .i64 n25)]) /\ (alc (.cells ((R26.mk 0 0 0 0 0 0 0 0 0 false none 0 0 ⟨#[]⟩)).c 27) w22 fun b26 w27 => stcL (Addr.mk b26 0 none) 0 s24.l w27 fun w28 => br (!(ByteArray.toList s8 == ByteArray.toList s13)) (K (.bool false) w28) (br (n9 != n14) (K (.bool false) w28) (ldR26 (Addr.mk b19 0 none) w28 fun s29 => ldR26 (Addr.mk b26 0 none) w28 fun s30 => Calls Tryz.prog 12 #[s29.v,s30.v] w28 (en fun e32 w31 => ∃ b33,e32 = .returned (.bool b33) /\ (br (!b33) (K (.bool false) w31) (br (n18 != n25) (K (.bool false) w31) (F3_1 (fun y4_33 w35 => ∀ _g36 : Tm,rdB y4_33 fun b37 => K (.bool b37) w35) (.pointer (some (Addr.mk b3 0 none))) (.string s8) (.int .i64 n14) w31)))))))))))))))
theorem F3_step (x0 : Value) (x1 : Value) (w : World) (K : Value -> World -> Prop) : (F3 x0 x1 w K) = rsh [(0,(.agg [(.int .i64),(.int .i64),(.int .i64),(.int .i64),(.int .i64),(.int .u8),(.int .i64),(.int .u16),(.int .u32),.bool,.slc,.str])),(1,(.one .str))] (args0 #[x0,x1]) (fun t => vc Tryz.prog (orcOf [([1,1,1,1,1,1],F3_1O)]) [] F3_code (retQ Tryz.prog Tryz.f3 K) t w) := by kernel_rfl
theorem F3_ok {x0 x1 : Value} {w : World} {K : Value -> World -> Prop} (h : F3 x0 x1 w K) : Calls Tryz.prog 3 #[x0,x1] w (rt K) := by
 rw [F3_step] at h
 exact Calls.mono (calls_of (c := F3_code) mixed Tryz.func3 rfl (nlt rfl) (vc_sound mixed (orcCons (π := [1,1,1,1,1,1]) F3_1_ok (orcNil F3_code)) F3_code [] rfl F3_code_ok _ _ _ (rsh_out h))) fun _ _ => rv_none
noncomputable def F13_code : Code := Tryz.f13.body.getD .skip
theorem F13_code_ok : okC Tryz.prog Tryz.f13.ntmps F13_code = true := by kernel_rfl
def F13 (w : World) (K : Value -> World -> Prop) : Prop :=
 alc (.cells #[(.int .u8 104),(.int .u8 105)] 5) w fun b1 w2 => ∃ l3a l3n l3c,∃ w4,Sem.run Tryz.prog (convert 25 25 (.slice (some (Addr.mk b1 0 none)) 2 2)) w2 = .ok (.slice l3a l3n l3c) w4 /\ (alc (.cells ((R26.mk 0 0 0 0 0 0 0 0 0 false none 0 0 ⟨#[]⟩)).c 27) w4 fun b5 w6 => stcL (Addr.mk b5 0 none) 0 (R26.mk 2 1 0 0 0 0 0 2 7 true l3a l3n l3c ⟨#[]⟩).l w6 fun w7 => ldR26 (Addr.mk b5 0 none) w7 fun s8 => Calls Tryz.prog 8 #[s8.v] w7 (en fun e10 w9 => ∃ s11,∃ n12,e10 = .returned (.tuple #[(.string s11),(.int .i64 n12)]) /\ (Calls Tryz.prog 10 #[(.string s11)] w9 (en fun e14 w13 => exR26 fun s15 => ∃ n16,e14 = .returned (.tuple #[s15.v,(.int .i64 n16)]) /\ (alc (.cells ((R26.mk 0 0 0 0 0 0 0 0 0 false none 0 0 ⟨#[]⟩)).c 27) w13 fun b17 w18 => stcL (Addr.mk b17 0 none) 0 s15.l w18 fun w19 => br (n12 == 0) (br (n16 == 0) (br (ByteArray.toList s11 == ByteArray.toList ⟨#[115,101,110,100,32,49,32,50,32,55,32,117,32,54,56,54,57]⟩) (ldR26 (Addr.mk b5 0 none) w19 fun s20 => ldR26 (Addr.mk b17 0 none) w19 fun s21 => Calls Tryz.prog 12 #[s20.v,s21.v] w19 (en fun e23 w22 => ∃ b24,e23 = .returned (.bool b24) /\ (K (.bool b24) w22))) (K (.bool false) w19)) (K (.bool false) w19)) (K (.bool false) w19))))))
theorem F13_step (w : World) (K : Value -> World -> Prop) : (F13  w K) = rsh [] (args0 #[]) (fun t => vc Tryz.prog (orcOf []) [] F13_code (retQ Tryz.prog Tryz.f13 K) t w) := by kernel_rfl
theorem F13_ok {w : World} {K : Value -> World -> Prop} (h : F13 w K) : Calls Tryz.prog 13 #[] w (rt K) := by
 rw [F13_step] at h
 exact Calls.mono (calls_of (c := F13_code) mixed Tryz.func13 rfl (nlt rfl) (vc_sound mixed (orcNil F13_code) F13_code [] rfl F13_code_ok _ _ _ (rsh_out h))) fun _ _ => rv_none
end Go.Proofs.YtilenpnpnbdndaaGreatDoor
namespace Go.Sh
open Go
def mK : Kd -> Value -> Prop
 | .int k,v => ∃ n,v = .int k n
 | .bool,v => ∃ b,v = .bool b
 | .str,v => ∃ s,v = .string s
 | _,_ => False
def mL : List Kd -> List Value -> Prop
 | [],[] => True
 | k :: ks,v :: vs => mK k v /\ mL ks vs
 | _,_ => False
def eqv : Value -> Value -> Bool
 | .int _ a,.int _ b => a == b
 | .bool a,.bool b => a == b
 | .string a,.string b => a.toList == b.toList
 | _,_ => false
def eqvs (vs us : List Value) : Bool := (vs.zip us).all fun p => eqv p.1 p.2
section
variable {P : Program} {w : World}
theorem eqvs_self : ∀ {ks : List Kd} {vs : List Value},mL ks vs -> eqvs vs vs = true
 | [],[],_ => rfl
 | [],_ :: _,h => h.elim
 | _ :: _,[],h => h.elim
 | k :: ks,v :: vs,h => by
  have ih := eqvs_self h.2
  unfold eqvs at ih ⊢
  rw [List.zip_cons_cons,List.all_cons,ih,Bool.and_true]
  have := h.1
  cases k <;> first | exact this.elim | (obtain ⟨n,rfl⟩ := this; simp [eqv])
end
end Go.Sh
namespace Go.Sh
open Go
def kdsF (P : Program) (g : TypeId -> Option (List Kd)) : Nat -> List Field -> Option (List Kd)
 | _,[] => some []
 | i,f :: fs => match g f.type with
  | some ks => match f.name != "_" && Nat.beq f.offset i && Nat.beq ks.length (P.cellsOf f.type) with
   | true => match kdsF P g (i + ks.length) fs with | some l => some (ks ++ l) | none => none
   | false => none
  | none => none
def kdsOf (P : Program) : Nat -> TypeId -> Option (List Kd)
 | 0,_ => none
 | d + 1,t => match P.underlying t with
  | some .bool => some [.bool]
  | some (.int q) => some [.int q]
  | some .string => some [.str]
  | some (.array n e) => match kdsOf P d e with
   | some ks => match Nat.beq ks.length (P.cellsOf e) with | true => some (List.replicate n ks).flatten | false => none
   | none => none
  | some (.struct fs) => match P.stoodInHeld t with
   | true => none
   | false => kdsF P (kdsOf P d) 0 fs.toList
  | _ => none
def valOf (P : Program) (t : TypeId) (vs : List Value) : Value := match P.underlying t with
 | some (.array _ _) => .agg vs.toArray
 | some (.struct _) => .agg vs.toArray
 | _ => vs.headD undef
theorem mL_len : ∀ {ks : List Kd} {vs : List Value},mL ks vs -> vs.length = ks.length
 | [],[],_ => rfl
 | [],_ :: _,h => h.elim
 | _ :: _,[],h => h.elim
 | _ :: _,_ :: _,h => by simp [mL_len h.2]
theorem mL_app : ∀ {ks ls : List Kd} {vs : List Value},mL (ks ++ ls) vs -> mL ks (vs.take ks.length) /\ mL ls (vs.drop ks.length)
 | [],_,vs,h => ⟨by simp [mL],by simpa using h⟩
 | k :: ks,ls,[],h => h.elim
 | k :: ks,ls,v :: vs,h => by
  obtain ⟨a,b⟩ := mL_app (ks := ks) (ls := ls) h.2
  exact ⟨⟨h.1,a⟩,b⟩
theorem eqvs_app {a b c d : List Value} (h : a.length = c.length) : eqvs (a ++ b) (c ++ d) = (eqvs a c && eqvs b d) := by
 unfold eqvs
 rw [List.zip_append h,List.all_append]
theorem eqvs_cut (vs us : List Value) (n : Nat) (h : vs.length = us.length) : eqvs vs us = (eqvs (vs.take n) (us.take n) && eqvs (vs.drop n) (us.drop n)) := by
 conv => lhs; rw [← List.take_append_drop n vs,← List.take_append_drop n us]
 exact eqvs_app (by simp [h])
section
variable {P : Program} {w : World}
theorem part_val {e : TypeId} {m off : Nat} {xs : Array Value} {ks : List Kd} (hk : kdsOf P m e = some ks) (hl : ks.length = P.cellsOf e) (hm : mL ks ((xs.toList.drop off).take (P.cellsOf e))) :
  (part e xs off).run P w = .ok (valOf P e ((xs.toList.drop off).take (P.cellsOf e))) w := by
 cases m with
 | zero => simp [kdsOf] at hk
 | succ m =>
  cases hu : P.underlying e with
  | none => simp [kdsOf,hu] at hk
  | some kd =>
   have agg : (∃ n e',kd = .array n e') \/ (∃ fs,kd = .struct fs) -> (part e xs off).run P w = .ok (valOf P e ((xs.toList.drop off).take (P.cellsOf e))) w := by
    intro h
    obtain ⟨i,hi⟩ := info_of_underlying hu
    have hl2 : xs.extract off (off + P.cellsOf e) = ((xs.toList.drop off).take (P.cellsOf e)).toArray := by
     apply Array.toList_inj.1
     rw [Array.toList_extract]
     simp [List.extract]
    unfold valOf
    rcases h with ⟨n,e',rfl⟩ | ⟨fs,rfl⟩
    ·rw [hu]
     simp only
     rw [← hl2]
     simp [part,isAgg,run_underlying hu,run_sizeOf w hi]
    ·rw [hu]
     simp only
     rw [← hl2]
     simp [part,isAgg,run_underlying hu,run_sizeOf w hi]
   have plain : P.plainKey e = true -> ks.length = 1 -> (part e xs off).run P w = .ok (valOf P e ((xs.toList.drop off).take (P.cellsOf e))) w := by
    intro hp h1
    have hlen := mL_len hm
    obtain ⟨v,hv⟩ : ∃ v,(xs.toList.drop off).take (P.cellsOf e) = [v] := by
     cases hx : (xs.toList.drop off).take (P.cellsOf e) with
     | nil => rw [hx] at hlen; simp at hlen; omega
     | cons v r => cases r with
      | nil => exact ⟨v,rfl⟩
      | cons _ _ => rw [hx] at hlen; simp at hlen; omega
    rw [run_part_plain w hp (getElem?_of_chunk hv),hv]
    unfold valOf
    rw [hu]
    cases kd <;> simp [Program.plainKey,hu] at hp <;> rfl
   cases kd
   case bool => simp [kdsOf,hu] at hk; subst hk; exact plain (by simp [Program.plainKey,hu]) rfl
   case int q => simp [kdsOf,hu] at hk; subst hk; exact plain (by simp [Program.plainKey,hu]) rfl
   case string => simp [kdsOf,hu] at hk; subst hk; exact plain (by simp [Program.plainKey,hu]) rfl
   case array n e' => exact agg (.inl ⟨n,e',rfl⟩)
   case struct fs => exact agg (.inr ⟨fs,rfl⟩)
   all_goals (simp [kdsOf,hu] at hk; done)
def EqK (P : Program) (dd : Nat) (e : TypeId) (ks : List Kd) : Prop := ∀ (w : World) (vs us : List Value),mL ks vs -> mL ks us -> (Op.equalIn dd e (valOf P e vs) (valOf P e us)).run P w = .ok (eqvs vs us) w
theorem items_val {dd m : Nat} {e : TypeId} {ks : List Kd} (hk : kdsOf P m e = some ks) (hl : ks.length = P.cellsOf e) (IH : EqK P dd e ks) (xs ys : Array Value) : ∀ (n j : Nat),mL (List.replicate n ks).flatten (xs.toList.drop (j * P.cellsOf e)) -> mL (List.replicate n ks).flatten (ys.toList.drop (j * P.cellsOf e)) ->
  (Op.eqItems dd e (P.cellsOf e) xs ys (List.range' j n)).run P w = .ok (eqvs (xs.toList.drop (j * P.cellsOf e)) (ys.toList.drop (j * P.cellsOf e))) w
 | 0,j,ha,hb => by
  have h1 : xs.toList.drop (j * P.cellsOf e) = [] := List.length_eq_zero_iff.1 (by have := mL_len ha; simpa using this)
  have h2 : ys.toList.drop (j * P.cellsOf e) = [] := List.length_eq_zero_iff.1 (by have := mL_len hb; simpa using this)
  rw [h1,h2]
  simp [Op.eqItems,eqvs]
 | n + 1,j,ha,hb => by
  rw [List.replicate_succ,List.flatten_cons] at ha hb
  obtain ⟨a1,a2⟩ := mL_app ha
  obtain ⟨b1,b2⟩ := mL_app hb
  rw [hl] at a1 a2 b1 b2
  rw [List.drop_drop] at a2 b2
  have e1 : j * P.cellsOf e + P.cellsOf e = (j + 1) * P.cellsOf e := by rw [Nat.add_mul,Nat.one_mul]
  rw [e1] at a2 b2
  have ih := items_val hk hl IH xs ys n (j + 1) a2 b2
  rw [List.range'_succ]
  simp only [Op.eqItems,Sem.run_bind,part_val hk hl a1,part_val hk hl b1,Result.andThen_ok,IH w _ _ a1 b1]
  rw [eqvs_cut (xs.toList.drop (j * P.cellsOf e)) (ys.toList.drop (j * P.cellsOf e)) (P.cellsOf e) (by rw [mL_len ha,mL_len hb]),List.drop_drop,List.drop_drop,e1]
  cases hq : eqvs ((xs.toList.drop (j * P.cellsOf e)).take (P.cellsOf e)) ((ys.toList.drop (j * P.cellsOf e)).take (P.cellsOf e)) with
  | true => simp [ih]
  | false => simp
theorem fields_val {dd m : Nat} (IH : ∀ e ks,kdsOf P m e = some ks -> EqK P dd e ks) (xs ys : Array Value) : ∀ (fs : List Field) (i : Nat) (ks : List Kd),kdsF P (kdsOf P m) i fs = some ks -> mL ks (xs.toList.drop i) -> mL ks (ys.toList.drop i) ->
  (Op.eqFields dd xs ys fs).run P w = .ok (eqvs (xs.toList.drop i) (ys.toList.drop i)) w
 | [],i,ks,hk,ha,hb => by
  simp [kdsF] at hk
  subst hk
  have h1 : xs.toList.drop i = [] := List.length_eq_zero_iff.1 (mL_len ha)
  have h2 : ys.toList.drop i = [] := List.length_eq_zero_iff.1 (mL_len hb)
  rw [h1,h2]
  simp [Op.eqFields,eqvs]
 | f :: fs,i,ks,hk,ha,hb => by
  unfold kdsF at hk
  split at hk
  ·rename_i k1 hk1
   split at hk
   ·rename_i hc
    simp only [Bool.and_eq_true] at hc
    obtain ⟨⟨hn,ho⟩,hl⟩ := hc
    have ho : f.offset = i := Nat.eq_of_beq_eq_true ho
    have hl : k1.length = P.cellsOf f.type := Nat.eq_of_beq_eq_true hl
    split at hk
    ·rename_i l hl2
     have hk := Option.some.inj hk
     subst hk
     obtain ⟨a1,a2⟩ := mL_app ha
     obtain ⟨b1,b2⟩ := mL_app hb
     rw [List.drop_drop] at a2 b2
     have ih := fields_val IH xs ys fs (i + k1.length) l hl2 a2 b2
     rw [hl] at a1 b1
     have pa := part_val (w := w) hk1 hl (off := f.offset) (xs := xs) (by rw [ho]; exact a1)
     have pb := part_val (w := w) hk1 hl (off := f.offset) (xs := ys) (by rw [ho]; exact b1)
     have hq := IH f.type k1 hk1 w _ _ a1 b1
     rw [ho] at pa pb
     have hn' : f.name ≠ "_" := by simpa using hn
     rw [Op.eqFields,if_pos hn',ho]
     simp only [Sem.run_bind,pa,pb,Result.andThen_ok,hq]
     rw [eqvs_cut (xs.toList.drop i) (ys.toList.drop i) (P.cellsOf f.type) (by rw [mL_len ha,mL_len hb]),List.drop_drop,List.drop_drop,← hl]
     rw [← hl] at hq
     cases hz : eqvs ((xs.toList.drop i).take k1.length) ((ys.toList.drop i).take k1.length) with
     | true => simp [ih]
     | false => simp
    ·cases hk
   ·cases hk
  ·cases hk
theorem eqK : ∀ (m : Nat) (t : TypeId) (ks : List Kd),kdsOf P m t = some ks -> ∀ d,EqK P (d + m) t ks
 | 0,t,ks,h,d => by simp [kdsOf] at h
 | m + 1,t,ks,h,d => by
  intro w vs us hv hu'
  unfold kdsOf at h
  cases hu : P.underlying t with
  | none => rw [hu] at h; cases h
  | some kd =>
   rw [hu] at h
   cases kd
   case bool =>
    cases h
    match vs,us,hv,hu' with
    | [_],[_],⟨⟨b,rfl⟩,_⟩,⟨⟨c,rfl⟩,_⟩ =>
     have : (Op.equalIn (d + (m + 1)) t (.bool b) (.bool c)).run P w = .ok (b == c) w := run_equalIn_bool w (d + m) t b c hu
     simp only [valOf,hu,List.headD_cons]
     rw [this]
     simp [eqvs,eqv]
   case int q =>
    cases h
    match vs,us,hv,hu' with
    | [_],[_],⟨⟨b,rfl⟩,_⟩,⟨⟨c,rfl⟩,_⟩ =>
     have : (Op.equalIn (d + (m + 1)) t (.int q b) (.int q c)).run P w = .ok (b == c) w := run_equalIn_int w (d + m) t q q b c hu
     simp only [valOf,hu,List.headD_cons]
     rw [this]
     simp [eqvs,eqv]
   case string =>
    cases h
    match vs,us,hv,hu' with
    | [_],[_],⟨⟨b,rfl⟩,_⟩,⟨⟨c,rfl⟩,_⟩ =>
     have : (Op.equalIn (d + (m + 1)) t (.string b) (.string c)).run P w = .ok (b.toList == c.toList) w := run_equalIn_string w (d + m) t b c hu
     simp only [valOf,hu,List.headD_cons]
     rw [this]
     simp [eqvs,eqv]
   case array n e =>
    simp only at h
    split at h
    ·rename_i k1 hk1
     split at h
     ·rename_i hl
      have hl := Nat.eq_of_beq_eq_true hl
      have h := Option.some.inj h
      subst h
      obtain ⟨i,hi⟩ : ∃ i,P.info? e = some i := by
       cases m with
       | zero => simp [kdsOf] at hk1
       | succ m' =>
        unfold kdsOf at hk1
        cases hue : P.underlying e with
        | none => rw [hue] at hk1; cases hk1
        | some _ => exact info_of_underlying hue
      simp only [valOf,hu]
      have := run_equalIn_array w (d + m) vs.toArray us.toArray hu hi
      rw [show d + (m + 1) = (d + m) + 1 from rfl,this,List.range_eq_range']
      have hx := items_val (w := w) hk1 hl (eqK m e k1 hk1 d) vs.toArray us.toArray n 0 (by simpa using hv) (by simpa using hu')
      simpa using hx
     ·cases h
    ·cases h
   case struct fs =>
    simp only at h
    split at h
    ·cases h
    ·rename_i hp
     have hfs : P.fieldsOf t = fs := by simp [Program.fieldsOf,hu]
     simp only [valOf,hu]
     have := run_equalIn_struct w (d + m) t vs.toArray us.toArray (by rw [hfs]; exact hu) hp
     rw [show d + (m + 1) = (d + m) + 1 from rfl,this,hfs]
     have hx := fields_val (w := w) (fun e ks hk => eqK m e ks hk d) vs.toArray us.toArray fs.toList 0 ks h (by simpa using hv) (by simpa using hu')
     simpa using hx
   all_goals (cases h; done)
def deepT (P : Program) (m : Nat) (t : TypeId) : Bool :=
 (match P.underlying t with | some (.struct _) => true | some (.array _ _) => true | _ => false) && !P.eqGuardType P.depth t && decide (m <= 10000)
theorem deep_run {m : Nat} {t : TypeId} {ks : List Kd} {vs us : List Value} (h : deepT P m t = true) (hk : kdsOf P m t = some ks) (hv : mL ks vs) (hu : mL ks us) : P.eqGuardType P.depth t = false /\ (Op.equalIn 10000 t (.agg vs.toArray) (.agg us.toArray)).run P w = .ok (eqvs vs us) w := by
 simp only [deepT,Bool.and_eq_true,Bool.not_eq_true',decide_eq_true_eq] at h
 obtain ⟨⟨h1,h2⟩,h4⟩ := h
 refine ⟨h2,?_⟩
 have := eqK m t ks hk (10000 - m) w vs us hv hu
 rw [Nat.sub_add_cancel h4] at this
 have hva : ∀ l,valOf P t l = .agg l.toArray := fun l => by
  unfold valOf
  split at h1
  ·rename_i e; rw [e]
  ·rename_i e; rw [e]
  ·cases h1
 rw [hva,hva] at this
 exact this
theorem neq_deep {m : Nat} {t : TypeId} {ks : List Kd} {x y : Operand} {vs us : List Value} (h : deepT P m t = true) (hk : kdsOf P m t = some ks) (hv : mL ks vs) (hu : mL ks us) : Sem.run P (binF P .neq t x y (.agg vs.toArray) (.agg us.toArray)) w = .ok (.bool (!eqvs vs us)) w := by
 obtain ⟨h1,h2⟩ := deep_run (w := w) h hk hv hu
 unfold binF
 simp only [Sem.run_bind,run_eqGuard_agg w _ t x y _ _ h1,Result.andThen_ok,run_neq_struct]
 rw [h2]
 rfl
theorem eql_deep {m : Nat} {t : TypeId} {ks : List Kd} {x y : Operand} {vs us : List Value} (h : deepT P m t = true) (hk : kdsOf P m t = some ks) (hv : mL ks vs) (hu : mL ks us) : Sem.run P (binF P .eql t x y (.agg vs.toArray) (.agg us.toArray)) w = .ok (.bool (eqvs vs us)) w := by
 obtain ⟨h1,h2⟩ := deep_run (w := w) h hk hv hu
 unfold binF
 simp only [Sem.run_bind,run_eqGuard_agg w _ t x y _ _ h1,Result.andThen_ok,run_eql_struct]
 rw [h2]
 rfl
end
end Go.Sh
namespace Go.Proofs.YtilenpnpnbdndaaGreatDoor
open Go Go.Sh
set_option maxRecDepth 100000
attribute [local instance] Esc.none
def ks49 : List Kd := List.replicate 16 (.int .u8) ++ [.int .u64,.int .i64,.int .u32,.int .u16,.int .u16,.int .i64,.int .i64,.int .u16,.int .u16] ++ List.replicate 13 (.int .i64) ++ [.bool,.bool,.bool]
theorem t50 : deepT Tryz.prog 5 50 = true := by kernel_rfl
theorem k50 : kdsOf Tryz.prog 5 50 = some ks49 := by kernel_rfl
theorem m49 (R : R49) : mL ks49 R.l := ⟨⟨_,rfl⟩,⟨_,rfl⟩,⟨_,rfl⟩,⟨_,rfl⟩,⟨_,rfl⟩,⟨_,rfl⟩,⟨_,rfl⟩,⟨_,rfl⟩,⟨_,rfl⟩,⟨_,rfl⟩,⟨_,rfl⟩,⟨_,rfl⟩,⟨_,rfl⟩,⟨_,rfl⟩,⟨_,rfl⟩,⟨_,rfl⟩,⟨_,rfl⟩,⟨_,rfl⟩,⟨_,rfl⟩,⟨_,rfl⟩,⟨_,rfl⟩,⟨_,rfl⟩,⟨_,rfl⟩,⟨_,rfl⟩,⟨_,rfl⟩,⟨_,rfl⟩,⟨_,rfl⟩,⟨_,rfl⟩,⟨_,rfl⟩,⟨_,rfl⟩,⟨_,rfl⟩,⟨_,rfl⟩,⟨_,rfl⟩,⟨_,rfl⟩,⟨_,rfl⟩,⟨_,rfl⟩,⟨_,rfl⟩,⟨_,rfl⟩,⟨_,rfl⟩,⟨_,rfl⟩,⟨_,rfl⟩,trivial⟩
section
variable {W w : World} {M : List HP}
theorem neq49 {x y : Operand} (R : R49) : Sem.run Tryz.prog (binF Tryz.prog .neq 50 x y R.v R.v) w = .ok (.bool false) w := by
 have := neq_deep (P := Tryz.prog) (w := w) (x := x) (y := y) t50 k50 (m49 R) (m49 R)
 rw [eqvs_self (m49 R)] at this
 exact this
theorem eql49 {x y : Operand} (R : R49) : Sem.run Tryz.prog (binF Tryz.prog .eql 50 x y R.v R.v) w = .ok (.bool true) w := by
 have := eql_deep (P := Tryz.prog) (w := w) (x := x) (y := y) t50 k50 (m49 R) (m49 R)
 rw [eqvs_self (m49 R)] at this
 exact this
theorem c8S {R : R26} {dat : List UInt8} (hT : TB w) (hG : GoodD ⟨R.c,dat⟩) (hd : Holds26 w R dat) (hdl : dat.length < 4611686018427387904) : Calls Tryz.prog 8 #[R.v] w (rt fun v w' => Same w w' /\
  ((∃ t,LineOk t R dat /\ v = .tuple #[.string (lineOf (itemsOf t) ⟨R.c,dat⟩),.int .i64 0]) \/ ((∀ t,¬ LineOk t R dat) /\ v = .tuple #[.string ⟨#[]⟩,.int .i64 1]))) :=
 rt_mono (c8 (W := w) (M := []) hT (Hs.start w) hG hd hdl) fun _ _ ⟨h,hv⟩ => ⟨h.old,hv⟩
theorem c12S {R1 R2 : R26} {d1 d2 : List UInt8} (h1 : Holds26 w R1 d1) (h2 : Holds26 w R2 d2) : Calls Tryz.prog 12 #[R1.v,R2.v] w (rt fun v w' => v = .bool (sameB R1 d1 R2 d2) /\ Same w w') :=
 rt_mono (c12 (W := w) (M := []) (Hs.start w) h1 h2) fun _ _ ⟨hv,h⟩ => ⟨hv,h.old⟩
def sendT : Vb := (2,⟨#[115,101,110,100]⟩,[69,72,73,74,75])
def aliveR (a : Option Addr) (c : Nat) : R26 := R26.mk 2 1 0 0 0 0 0 2 7 true a 2 c ⟨#[]⟩
theorem dec_one' (n : Nat) (h : n < 10) : dec (n : Int) = bs [UInt8.ofNat (48 + n)] := by
 show bs (Lib.decDigits n) = _
 rw [Lib.decDigits,dif_pos h]
theorem alive_line (a : Option Addr) (c : Nat) : lineOf (itemsOf sendT) ⟨(aliveR a c).c,[104,105]⟩ = ⟨#[115,101,110,100,32,49,32,50,32,55,32,117,32,54,56,54,57]⟩ := by
 show joined [⟨#[115,101,110,100]⟩,dec ((1 : Nat) : Int),dec ((2 : Nat) : Int),dec ((7 : Nat) : Int),⟨#[117]⟩,bs (hexW [104,105])] = _
 rw [dec_one' 1 (by omega),dec_one' 2 (by omega),dec_one' 7 (by omega)]
 decide +kernel
theorem alive_fine (a : Option Addr) (c : Nat) : Fine (aliveR a c) [104,105] := by
 refine ⟨?_,?_,?_,?_,?_,⟨?_,?_,?_⟩,?_,?_⟩
 ·show (0 : Int) <= 1 /\ (1 : Int) <= _; omega
 ·show (0 : Int) <= 0 /\ (0 : Int) <= _; omega
 ·show (0 : Int) <= 0 /\ (0 : Int) <= _; omega
 ·show (0 : Int) <= 0 /\ (0 : Int) <= _; omega
 ·show (0 : Int) <= 0 /\ (0 : Int) <= _; omega
 ·show (0 : Int) <= 0 /\ (0 : Int) <= _; omega
 ·show (0 : Int) <= 2 /\ (2 : Int) <= _; omega
 ·show (0 : Int) <= 7 /\ (7 : Int) <= _; omega
 ·show 2 <= 65536; omega
 ·show 0 <= 65536; omega
theorem sendT_mem : sendT ∈ vtab := by simp [vtab,sendT]
theorem alive_ok (a : Option Addr) (c : Nat) : LineOk sendT (aliveR a c) [104,105] :=
 (mask_line sendT_mem rfl (fine_ok sendT_mem (alive_fine a c))).1 (sameB_iff.1 rfl)
theorem alc_in {o : Obj} {K : Nat -> World -> Prop} (h : K w.heap.size (w.alloc o)) : Go.Sh.alc o w K := h
theorem c13 (hT : TB w) : Calls Tryz.prog 13 #[] w (rt fun v w' => v = .bool true /\ Same w w') := by
 refine F13_ok ?_
 unfold F13
 refine alc_in ?_
 refine ⟨_,_,_,_,Go.Lib.run_convert_bytes_const w 25 5 #[.int .u8 104,.int .u8 105] 2 2 Tryz.underlying25 Tryz.underlying5,?_⟩
 generalize hw4 : w.alloc (.cells #[.int .u8 104,.int .u8 105] 5 ((#[Value.int .u8 104,Value.int .u8 105] : Array Value).size,(#[Value.int .u8 104,Value.int .u8 105] : Array Value).size + 1)) = w4
 have hs4 : Same w w4 := by rw [← hw4]; exact (Fr.refl w).alloc _
 have hb4 : w4.heap[w.heap.size]? = some (.cells (u8v [104,105]).toArray 5 (2,3)) := by rw [← hw4]; exact alloc_new w _
 have hr4 : Rd w4 (some ⟨w.heap.size,0,none⟩) (u8v [104,105]) := rd_blk hb4
 have hA : Holds26 w4 (aliveR (some ⟨w.heap.size,0,none⟩) 2) [104,105] := ⟨rfl,hr4⟩
 refine (Hs.start w4).alc fun b5 w6 h6 => h6.stcL 0 rfl (by rfl) fun w7 h7 => ?_
 have h7 : Hs w4 [pt b5 (.cells (aliveR (some ⟨w.heap.size,0,none⟩) 2).c 27 (0,0))] w7 := h7
 refine ldR26_of (s := aliveR (some ⟨w.heap.size,0,none⟩) 2) (h7.atL 0 rfl) ?_
 have hT4 : TB w4 := hT.same hs4
 have hA7 := hA.same h7.old
 refine cl (c8S (Hs.tb h7 hT4) (alive_fine _ _).good hA7 (by show 2 < _; omega)) ?_
 rintro _ w9 ⟨hs9,hv⟩
 have h9 := h7.same hs9
 obtain ⟨t,ht,rfl⟩ := hv.resolve_right fun hn => hn.1 sendT (alive_ok _ _)
 have et := (alive_ok (some ⟨w.heap.size,0,none⟩) 2).one ht
 subst et
 refine ⟨_,_,rfl,?_⟩
 have hdd : IsDeed (lineOf (itemsOf sendT) ⟨(aliveR (some ⟨w.heap.size,0,none⟩) 2).c,[104,105]⟩) (aliveR (some ⟨w.heap.size,0,none⟩) 2) [104,105] := ⟨sendT,ht.deed⟩
 rw [alive_line] at hdd ⊢
 refine cl (c10 hT4 h9 (by decide)) ?_
 rintro _ w13 hv
 obtain ⟨R,dat,hd,rfl,h13⟩ := hv.resolve_right fun hn => hn.1 ⟨_,_,hdd⟩
 refine exR26_of R ⟨_,rfl,?_⟩
 refine h13.alc fun b17 w18 h18 => h18.stcL 0 rfl (by rfl) fun w19 h19 => ?_
 have h19 : Hs w4 [pt b17 (.cells R.c 27 (0,0)),dtP w4 R.c dat,pt b5 (.cells (aliveR (some ⟨w.heap.size,0,none⟩) 2).c 27 (0,0))] w19 := h19
 have e0 : ((0 : Int) == 0) = true := rfl
 rw [e0,br_true,br_true,str_beq,decide_eq_true rfl,br_true]
 refine ldR26_of (s := aliveR (some ⟨w.heap.size,0,none⟩) 2) (h19.atL 2 rfl) (ldR26_of (s := R) (h19.atL 0 rfl) ?_)
 refine cl (c12S (hA.same h19.old) (dt_holds (h19.focus (i := 1) rfl))) ?_
 rintro _ w20 ⟨rfl,hs20⟩
 refine ⟨_,rfl,?_⟩
 rw [sameB_iff.2 (hdd.det hd)]
 exact ⟨rfl,hs4.trans (h19.old.trans hs20 fun _ _ x => x) fun _ _ x => x⟩
end
end Go.Proofs.YtilenpnpnbdndaaGreatDoor
namespace Go.Proofs.YtilenpnpnbdndaaGreatDoor
open Go Go.Sh
set_option maxRecDepth 100000
set_option maxHeartbeats 4000000
attribute [local instance] Esc.none
noncomputable def F4_code : Code := Tryz.f4.body.getD .skip
theorem F4_code_ok : okC Tryz.prog Tryz.f4.ntmps F4_code = true := by kernel_rfl
def F4_1C (Kr : Value -> World -> Prop) : Post := fun o t w => match o with | .normal => False | .exit _ => (False) | .ret => Kr (t 4) w
def F4_1 (Kr : Value -> World -> Prop) (x2 : Value) (x5 : Value) (x8 : Value) (w : World) : Prop :=
 rdA x2 fun a1 => rdS x5 fun s2 => rdI .i64 x8 fun n3 => br (n3 != 0) (Calls Tryz.prog 13 #[] w (en fun e5 w4 => ∃ b6,e5 = .returned (.bool b6) /\ (Kr (.bool b6) w4))) (Calls Tryz.prog 16 #[(.string s2)] w (en fun e8 w7 => exR49 fun s9 => ∃ n10,e8 = .returned (.tuple #[s9.v,(.int .i64 n10)]) /\ (alc (.cells ((R49.mk 0 0 0 0 0 0 0 0 0 0 0 0 0 0 0 0 0 0 0 0 0 0 0 0 0 0 0 0 0 0 0 0 0 0 0 0 0 0 false false false)).c 50) w7 fun b11 w12 => stcL (Addr.mk b11 0 none) 0 s9.l w12 fun w13 => br (n10 == 0) (ldR49 (Addr.mk b11 0 none) w13 fun s14 => ldR49 a1 w13 fun s15 => ∃ b16,∃ w17,Sem.run Tryz.prog (binF Tryz.prog .eql 50 (.tmp 64) (.tmp 65) s14.v s15.v) w13 = .ok (.bool b16) w17 /\ (br b16 (Calls Tryz.prog 13 #[] w17 (en fun e19 w18 => ∃ b20,e19 = .returned (.bool b20) /\ (Kr (.bool b20) w18))) (Kr (.bool false) w17))) (Kr (.bool false) w13))))
def F4_1O (Q : Post) (t : Tm) (w : World) : Prop := F4_1 (fun y4 w => ∀ g,rsh [(4,(.one .bool))] (upds g [(4,y4)]) fun t => Q .ret t w) (t 2) (t 5) (t 8) w
theorem F4_1_step (Kr : Value -> World -> Prop) (t : Tm) (w : World) : (F4_1 Kr (t 2) (t 5) (t 8) w) = rsh [(2,(.one .adr)),(5,(.one .str)),(8,(.one (.int .i64)))] t (fun t => vc Tryz.prog (orcOf []) [1,1,1,1,1,1] (getAt F4_code [1,1,1,1,1,1]) (F4_1C Kr) t w) := by kernel_rfl
theorem F4_1_ok : ∀ Q t w,F4_1O Q t w -> W Tryz.prog Tryz.f4.ntmps (getAt F4_code [1,1,1,1,1,1]) Q t w := by
 intro Q t w h
 unfold F4_1O at h
 rw [F4_1_step] at h
 refine (vc_sound mixed (orcNil F4_code) _ _ rfl (okC_at F4_code_ok [1,1,1,1,1,1]) _ _ _ (rsh_out h)).mono ?_
 intro o t w q
 cases o with
 | normal => exact q.elim
 | exit i => exact q.elim
 | ret => exact out_ok [4] q
def F4 (x0 : Value) (x1 : Value) (w : World) (K : Value -> World -> Prop) : Prop :=
 exR49 fun s1 => x0 = s1.v /\ (rdS x1 fun s2 => alc (.cells s1.c 50) w fun b3 w4 => ldR49 (Addr.mk b3 0 none) w4 fun s5 => Calls Tryz.prog 14 #[s5.v] w4 (en fun e7 w6 => ∃ s8,∃ n9,e7 = .returned (.tuple #[(.string s8),(.int .i64 n9)]) /\ (ldR49 (Addr.mk b3 0 none) w6 fun s10 => Calls Tryz.prog 15 #[s10.v] w6 (en fun e12 w11 => ∃ s13,∃ n14,e12 = .returned (.tuple #[(.string s13),(.int .i64 n14)]) /\ (Calls Tryz.prog 16 #[(.string s2)] w11 (en fun e16 w15 => exR49 fun s17 => ∃ n18,e16 = .returned (.tuple #[s17.v,(.int .i64 n18)]) /\ (alc (.cells ((R49.mk 0 0 0 0 0 0 0 0 0 0 0 0 0 0 0 0 0 0 0 0 0 0 0 0 0 0 0 0 0 0 0 0 0 0 0 0 0 0 false false false)).c 50) w15 fun b19 w20 => stcL (Addr.mk b19 0 none) 0 s17.l w20 fun w21 => Calls Tryz.prog 17 #[(.string s2)] w21 (en fun e23 w22 => exR49 fun s24 => ∃ n25,e23 = .returned (.tuple #[s24.v,(.int .i64 n25)]) /\ (alc (.cells ((R49.mk 0 0 0 0 0 0 0 0 0 0 0 0 0 0 0 0 0 0 0 0 0 0 0 0 0 0 0 0 0 0 0 0 0 0 0 0 0 0 false false false)).c 50) w22 fun b26 w27 => stcL (Addr.mk b26 0 none) 0 s24.l w27 fun w28 => br (!(ByteArray.toList s8 == ByteArray.toList s13)) (K (.bool false) w28) (br (n9 != n14) (K (.bool false) w28) (ldR49 (Addr.mk b19 0 none) w28 fun s29 => ldR49 (Addr.mk b26 0 none) w28 fun s30 => ∃ b31,∃ w32,Sem.run Tryz.prog (binF Tryz.prog .neq 50 (.tmp 44) (.tmp 45) s29.v s30.v) w28 = .ok (.bool b31) w32 /\ (br b31 (K (.bool false) w32) (br (n18 != n25) (K (.bool false) w32) (F4_1 (fun y4_32 w34 => ∀ _g35 : Tm,rdB y4_32 fun b36 => K (.bool b36) w34) (.pointer (some (Addr.mk b3 0 none))) (.string s8) (.int .i64 n14) w32))))))))))))))
theorem F4_step (x0 : Value) (x1 : Value) (w : World) (K : Value -> World -> Prop) : (F4 x0 x1 w K) = rsh [(0,(.agg [(.int .u8),(.int .u8),(.int .u8),(.int .u8),(.int .u8),(.int .u8),(.int .u8),(.int .u8),(.int .u8),(.int .u8),(.int .u8),(.int .u8),(.int .u8),(.int .u8),(.int .u8),(.int .u8),(.int .u64),(.int .i64),(.int .u32),(.int .u16),(.int .u16),(.int .i64),(.int .i64),(.int .u16),(.int .u16),(.int .i64),(.int .i64),(.int .i64),(.int .i64),(.int .i64),(.int .i64),(.int .i64),(.int .i64),(.int .i64),(.int .i64),(.int .i64),(.int .i64),(.int .i64),.bool,.bool,.bool])),(1,(.one .str))] (args0 #[x0,x1]) (fun t => vc Tryz.prog (orcOf [([1,1,1,1,1,1],F4_1O)]) [] F4_code (retQ Tryz.prog Tryz.f4 K) t w) := by kernel_rfl
theorem F4_ok {x0 x1 : Value} {w : World} {K : Value -> World -> Prop} (h : F4 x0 x1 w K) : Calls Tryz.prog 4 #[x0,x1] w (rt K) := by
 rw [F4_step] at h
 exact Calls.mono (calls_of (c := F4_code) mixed Tryz.func4 rfl (nlt rfl) (vc_sound mixed (orcCons (π := [1,1,1,1,1,1]) F4_1_ok (orcNil F4_code)) F4_code [] rfl F4_code_ok _ _ _ (rsh_out h))) fun _ _ => rv_none
end Go.Proofs.YtilenpnpnbdndaaGreatDoor
