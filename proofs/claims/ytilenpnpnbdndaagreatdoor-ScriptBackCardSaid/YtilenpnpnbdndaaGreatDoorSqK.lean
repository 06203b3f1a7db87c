/- Own text: part of the shallow reading of the code and of the contracts that are proved over it. -/
import Derived.Test.YtilenpnpnbdndaaGreatDoorSqH
import Derived.Laws.MakeOwn
import Derived.Laws.IdiomStrings
namespace Go.Proofs.YtilenpnpnbdndaaGreatDoor
open Go Go.Sh
set_option maxRecDepth 100000
theorem em32 : IntKind.wrap .u64 (bitI .xor .u32 (if IntKind.signed .u32 then -1 else IntKind.max .u32) (IntKind.wrap .u32 0)) = ((4294967295 : Nat) : Int) := by kernel_rfl
theorem em16 : IntKind.wrap .u64 (bitI .xor .u16 (if IntKind.signed .u16 then -1 else IntKind.max .u16) (IntKind.wrap .u16 0)) = ((65535 : Nat) : Int) := by kernel_rfl
theorem em8 : IntKind.wrap .u64 (bitI .xor .u8 (if IntKind.signed .u8 then -1 else IntKind.max .u8) (IntKind.wrap .u8 0)) = ((255 : Nat) : Int) := by kernel_rfl
section
variable {W w : World} {M : List HP} {lb cb o m : Nat} {r : Bool} {T : TypeId} {S : Sc} {ws : List ByteArray}
theorem c90 (hT : TB W) (h : Hs W (lnP lb r ws :: pt cb (.cells S.cs T (0,0)) :: M) w) (ht : tyI S (.num o .i64 1099511627776)) (hl : r = false -> ws.length <= 1000) (hsz : r = true -> small ws) :
  Calls Tryz.prog 90 #[.pointer (some ⟨lb,0,none⟩),.pointer (some ⟨cb,o,none⟩)] w (rtp (IP W M r lb cb T (.num o .i64 1099511627776) S ws) (IE W M r (.num o .i64 1099511627776) S ws)) := by
 refine escI fun hE => F90_ok ?_
 obtain ⟨a,c,h1⟩ := ln_open h
 have hgo : ∀ {K : World -> Prop},(r = false -> okI S (.num o .i64 1099511627776)) -> (∀ w',IP W M r lb cb T (.num o .i64 1099511627776) S ws (.tuple #[]) w' -> K w') -> F90_1 K (.pointer (some ⟨lb,0,none⟩)) (.pointer (some ⟨cb,o,none⟩)) w := by
  intro K hok hk
  unfold F90_1
  simp only [rdP_mk,nn]
  refine h.ldI 1 rfl ht ?_
  refine h.alc fun b w2 h2 => ?_
  refine h2.stc 0 rfl (by decide) fun w3 h3 => ?_
  have h3 : Hs W (pt b (.cells #[.int .u64 (IntKind.wrap .u64 (iAt S.cs o))] 42 (0,0)) :: lnP lb r ws :: pt cb (.cells S.cs T (0,0)) :: M) w3 := h3
  have e0 : r = false -> IntKind.wrap .u64 (iAt S.cs o) = iAt S.cs o := fun hr => by
   obtain ⟨g0,g1⟩ := hok hr
   rw [wrap_u64 g0 (by omega)]
  refine clp (c57 (S := ⟨#[.int .u64 (IntKind.wrap .u64 (iAt S.cs o))],[]⟩) (o := 0) (m := 1099511627776) hT (h3.perm (List.Perm.swap _ _ _)) rfl (fun hr => ?_) hl (by omega) hsz) ?_ ?_
  ·show 0 <= IntKind.wrap .u64 (iAt S.cs o) /\ IntKind.wrap .u64 (iAt S.cs o) <= _
   rw [e0 hr]
   exact hok hr
  ·rintro _ w4 ⟨rfl,S5,ws',hs,h4⟩
   obtain ⟨n,e1,g0,g1,hs'⟩ := hs.num ht e0
   rw [e1] at h4
   refine ⟨rfl,h4.ldI 1 rfl rfl ?_⟩
   rw [wrap_i64 (by omega) (by omega)]
   refine h4.stc 2 rfl (lt_of_at ht) fun w5 h5 => hk w5 ⟨rfl,_,ws',hs',?_⟩
   have h5 : Hs W (lnP lb r ws' :: pt b (.cells #[.int .u64 n] 42 (0,0)) :: pt cb (.cells (S.cs.setIfInBounds o (.int .i64 n)) T (0,0)) :: M) w5 := h5
   exact h5.erase 1
  ·rintro ch w4 ⟨cc,rfl,hn,hs⟩
   exact hE _ _ ⟨cc,rfl,hn.num e0,hs.drop⟩
 unfold F90
 simp only [rdP_mk,nn]
 refine h1.ldB 0 rfl rfl ?_
 cases r with
 | true =>
  rw [Bool.not_true,br_false]
  exact hgo (fun x => (nomatch x)) fun w' q _ => q
 | false =>
  rw [Bool.not_false,br_true]
  have hbad : ¬ okI S (.num o .i64 1099511627776) -> ∀ w',Hs W M w' -> Esc.E (PE 1) w' := fun hn w' hs =>
   hE _ _ ⟨1,rfl,⟨fun x => (nomatch x),fun _ => ⟨rfl,hn⟩⟩,hs⟩
  refine h.ldI 1 rfl ht ?_
  rw [br_dec]
  refine ⟨fun h0 => h.ldI 1 rfl ht ?_,fun h0 => ?_⟩
  ·refine clp c28 ?_ ?_
   ·rintro _ _ ⟨hb,rfl,rfl⟩
    rw [decide_eq_true_eq] at hb
    exact ⟨rfl,hgo (fun _ => ⟨h0,hb⟩) fun w' q _ => q⟩
   ·rintro ch _ ⟨hb,rfl,rfl⟩
    rw [decide_eq_false_iff_not] at hb
    exact hbad (fun x => hb x.2) _ h.drop.drop
  ·refine clp c28 ?_ ?_
   ·rintro _ _ ⟨hb,_⟩
    cases hb
   ·rintro ch _ ⟨_,rfl,rfl⟩
    exact hbad (fun x => h0 x.1) _ h.drop.drop
theorem c60 (hT : TB W) (h : Hs W (lnP lb r ws :: pt cb (.cells S.cs T (0,0)) :: M) w) (ht : tyI S (.num o .u32 4294967295)) (hw : r = false -> okI S (.num o .u32 4294967295)) (hl : r = false -> ws.length <= 1000) (hsz : r = true -> small ws) :
  Calls Tryz.prog 60 #[.pointer (some ⟨lb,0,none⟩),.pointer (some ⟨cb,o,none⟩)] w (rtp (IP W M r lb cb T (.num o .u32 4294967295) S ws) (IE W M r (.num o .u32 4294967295) S ws)) := by
 refine escI fun hE => F60_ok ?_
 unfold F60
 simp only [rdP_mk,nn]
 refine h.ldI 1 rfl ht ?_
 refine h.alc fun b w2 h2 => ?_
 refine h2.stc 0 rfl (by decide) fun w3 h3 => ?_
 have h3 : Hs W (pt b (.cells #[.int .u64 (IntKind.wrap .u64 (iAt S.cs o))] 42 (0,0)) :: lnP lb r ws :: pt cb (.cells S.cs T (0,0)) :: M) w3 := h3
 have e0 : r = false -> IntKind.wrap .u64 (iAt S.cs o) = iAt S.cs o := fun hr => by
  obtain ⟨g0,g1⟩ := hw hr
  rw [wrap_u64 g0 (by omega)]
 rw [em32]
 refine clp (c57 (S := ⟨#[.int .u64 (IntKind.wrap .u64 (iAt S.cs o))],[]⟩) (o := 0) (m := 4294967295) hT (h3.perm (List.Perm.swap _ _ _)) rfl (fun hr => ?_) hl (by omega) hsz) ?_ ?_
 ·show 0 <= IntKind.wrap .u64 (iAt S.cs o) /\ IntKind.wrap .u64 (iAt S.cs o) <= _
  rw [e0 hr]
  exact hw hr
 ·rintro _ w4 ⟨rfl,S5,ws',hs,h4⟩
  obtain ⟨n,e1,g0,g1,hs'⟩ := hs.num ht e0
  rw [e1] at h4
  refine ⟨rfl,h4.ldI 1 rfl rfl ?_⟩
  have ew : IntKind.wrap .u32 n = n := by rw [IntKind.wrap_u32]; omega
  rw [ew]
  refine h4.stc 2 rfl (lt_of_at ht) fun w5 h5 => ⟨by first | rfl | trivial,_,ws',hs',?_⟩
  have h5 : Hs W (lnP lb r ws' :: pt b (.cells #[.int .u64 n] 42 (0,0)) :: pt cb (.cells (S.cs.setIfInBounds o (.int .u32 n)) T (0,0)) :: M) w5 := h5
  exact h5.erase 1
 ·rintro ch w4 ⟨cc,rfl,hn,hs⟩
  exact hE _ _ ⟨cc,rfl,hn.num e0,hs.drop⟩
theorem c61 (hT : TB W) (h : Hs W (lnP lb r ws :: pt cb (.cells S.cs T (0,0)) :: M) w) (ht : tyI S (.num o .u16 65535)) (hw : r = false -> okI S (.num o .u16 65535)) (hl : r = false -> ws.length <= 1000) (hsz : r = true -> small ws) :
  Calls Tryz.prog 61 #[.pointer (some ⟨lb,0,none⟩),.pointer (some ⟨cb,o,none⟩)] w (rtp (IP W M r lb cb T (.num o .u16 65535) S ws) (IE W M r (.num o .u16 65535) S ws)) := by
 refine escI fun hE => F61_ok ?_
 unfold F61
 simp only [rdP_mk,nn]
 refine h.ldI 1 rfl ht ?_
 refine h.alc fun b w2 h2 => ?_
 refine h2.stc 0 rfl (by decide) fun w3 h3 => ?_
 have h3 : Hs W (pt b (.cells #[.int .u64 (IntKind.wrap .u64 (iAt S.cs o))] 42 (0,0)) :: lnP lb r ws :: pt cb (.cells S.cs T (0,0)) :: M) w3 := h3
 have e0 : r = false -> IntKind.wrap .u64 (iAt S.cs o) = iAt S.cs o := fun hr => by
  obtain ⟨g0,g1⟩ := hw hr
  rw [wrap_u64 g0 (by omega)]
 rw [em16]
 refine clp (c57 (S := ⟨#[.int .u64 (IntKind.wrap .u64 (iAt S.cs o))],[]⟩) (o := 0) (m := 65535) hT (h3.perm (List.Perm.swap _ _ _)) rfl (fun hr => ?_) hl (by omega) hsz) ?_ ?_
 ·show 0 <= IntKind.wrap .u64 (iAt S.cs o) /\ IntKind.wrap .u64 (iAt S.cs o) <= _
  rw [e0 hr]
  exact hw hr
 ·rintro _ w4 ⟨rfl,S5,ws',hs,h4⟩
  obtain ⟨n,e1,g0,g1,hs'⟩ := hs.num ht e0
  rw [e1] at h4
  refine ⟨rfl,h4.ldI 1 rfl rfl ?_⟩
  have ew : IntKind.wrap .u16 n = n := by rw [IntKind.wrap_u16]; omega
  rw [ew]
  refine h4.stc 2 rfl (lt_of_at ht) fun w5 h5 => ⟨by first | rfl | trivial,_,ws',hs',?_⟩
  have h5 : Hs W (lnP lb r ws' :: pt b (.cells #[.int .u64 n] 42 (0,0)) :: pt cb (.cells (S.cs.setIfInBounds o (.int .u16 n)) T (0,0)) :: M) w5 := h5
  exact h5.erase 1
 ·rintro ch w4 ⟨cc,rfl,hn,hs⟩
  exact hE _ _ ⟨cc,rfl,hn.num e0,hs.drop⟩
theorem c98 (hT : TB W) (h : Hs W (lnP lb r ws :: pt cb (.cells S.cs T (0,0)) :: M) w) (ht : tyI S (.num o .u8 255)) (hw : r = false -> okI S (.num o .u8 255)) (hl : r = false -> ws.length <= 1000) (hsz : r = true -> small ws) :
  Calls Tryz.prog 98 #[.pointer (some ⟨lb,0,none⟩),.pointer (some ⟨cb,o,none⟩)] w (rtp (IP W M r lb cb T (.num o .u8 255) S ws) (IE W M r (.num o .u8 255) S ws)) := by
 refine escI fun hE => F98_ok ?_
 unfold F98
 simp only [rdP_mk,nn]
 refine h.ldI 1 rfl ht ?_
 refine h.alc fun b w2 h2 => ?_
 refine h2.stc 0 rfl (by decide) fun w3 h3 => ?_
 have h3 : Hs W (pt b (.cells #[.int .u64 (IntKind.wrap .u64 (iAt S.cs o))] 42 (0,0)) :: lnP lb r ws :: pt cb (.cells S.cs T (0,0)) :: M) w3 := h3
 have e0 : r = false -> IntKind.wrap .u64 (iAt S.cs o) = iAt S.cs o := fun hr => by
  obtain ⟨g0,g1⟩ := hw hr
  rw [wrap_u64 g0 (by omega)]
 rw [em8]
 refine clp (c57 (S := ⟨#[.int .u64 (IntKind.wrap .u64 (iAt S.cs o))],[]⟩) (o := 0) (m := 255) hT (h3.perm (List.Perm.swap _ _ _)) rfl (fun hr => ?_) hl (by omega) hsz) ?_ ?_
 ·show 0 <= IntKind.wrap .u64 (iAt S.cs o) /\ IntKind.wrap .u64 (iAt S.cs o) <= _
  rw [e0 hr]
  exact hw hr
 ·rintro _ w4 ⟨rfl,S5,ws',hs,h4⟩
  obtain ⟨n,e1,g0,g1,hs'⟩ := hs.num ht e0
  rw [e1] at h4
  refine ⟨rfl,h4.ldI 1 rfl rfl ?_⟩
  have ew : IntKind.wrap .u8 n = n := by rw [IntKind.wrap_u8]; omega
  rw [ew]
  refine h4.stc 2 rfl (lt_of_at ht) fun w5 h5 => ⟨by first | rfl | trivial,_,ws',hs',?_⟩
  have h5 : Hs W (lnP lb r ws' :: pt b (.cells #[.int .u64 n] 42 (0,0)) :: pt cb (.cells (S.cs.setIfInBounds o (.int .u8 n)) T (0,0)) :: M) w5 := h5
  exact h5.erase 1
 ·rintro ch w4 ⟨cc,rfl,hn,hs⟩
  exact hE _ _ ⟨cc,rfl,hn.num e0,hs.drop⟩
theorem c62 {no yes : ByteArray} (hne : no ≠ yes) (h : Hs W (lnP lb r ws :: pt cb (.cells S.cs T (0,0)) :: M) w) (ht : tyI S (.flag o no yes)) (hl : r = false -> ws.length <= 1000) :
  Calls Tryz.prog 62 #[.pointer (some ⟨lb,0,none⟩),.pointer (some ⟨cb,o,none⟩),.string no,.string yes] w (rtp (IP W M r lb cb T (.flag o no yes) S ws) (IE W M r (.flag o no yes) S ws)) := by
 refine escI fun hE => F62_ok ?_
 obtain ⟨a,c,h1⟩ := ln_open h
 unfold F62
 simp only [rdP_mk,rdS_mk,nn]
 refine h1.ldB 0 rfl rfl ?_
 cases r with
 | false =>
  rw [Bool.not_false,br_true]
  refine h.ldB 1 rfl ht ?_
  have hS : Stp false (.flag o no yes) S ws S (ws ++ [if bAt S.cs o then yes else no]) := ⟨⟨bAt S.cs o,by rw [set_same ht]⟩,trivial,ht,fun x => (nomatch x),fun _ => ⟨rfl,rfl⟩⟩
  cases hb : bAt S.cs o with
  | true =>
   rw [hb] at hS
   rw [br_true]
   exact put1 h (hl rfl) fun w3 h3 => ⟨rfl,by first | rfl | trivial,S,_,hS,h3⟩
  | false =>
   rw [hb] at hS
   rw [br_false]
   exact put1 h (hl rfl) fun w3 h3 => ⟨rfl,by first | rfl | trivial,S,_,hS,h3⟩
 | true =>
  rw [Bool.not_true,br_false]
  have hset : ∀ (s : ByteArray) (rest : List ByteArray) (b : Bool),s = (if b then yes else no) -> Stp true (.flag o no yes) S (s :: rest) ⟨S.cs.setIfInBounds o (.bool b),S.dat⟩ rest := fun s rest b hb => by
   refine ⟨⟨_,rfl⟩,trivial,?_,fun _ => ?_,fun x => (nomatch x)⟩
   ·show _ = some _
    rw [set_at ht,bAt_of (set_at ht)]
   ·show _ = (if bAt _ o then yes else no) :: _
    rw [bAt_of (set_at ht),hb]
  refine clp (c81 h) ?_ ?_
  ·rintro _ w2 ⟨s,rest,rfl,rfl,h2⟩
   refine ⟨s,rfl,?_⟩
   rw [str_beq,str_beq,br_dec]
   refine ⟨fun he => ?_,fun he => ?_⟩
   ·refine clp c28 ?_ ?_
    ·rintro _ _ ⟨_,rfl,rfl⟩
     refine ⟨rfl,h2.stc 1 rfl (lt_of_at ht) fun w5 h5 => ⟨by first | rfl | trivial,_,rest,hset s rest _ ?_,h5⟩⟩
     rw [he,decide_eq_false hne]
     rfl
    ·rintro ch _ ⟨hb,_⟩
     cases hb
   ·refine clp c28 ?_ ?_
    ·rintro _ _ ⟨hb,rfl,rfl⟩
     refine ⟨rfl,h2.stc 1 rfl (lt_of_at ht) fun w5 h5 => ⟨by first | rfl | trivial,_,rest,hset s rest _ ?_,h5⟩⟩
     rw [hb]
     exact of_decide_eq_true hb
    ·rintro ch _ ⟨hb,rfl,rfl⟩
     rw [decide_eq_false_iff_not] at hb
     refine hE _ _ ⟨250,rfl,⟨fun _ => ⟨rfl,fun s' ws' _ e => ?_⟩,fun x => (nomatch x)⟩,h2.drop.drop⟩
     injection e with e1 _
     have e1 : s = if bAt s'.cs o then yes else no := e1
     cases hx : bAt s'.cs o with
     | true => rw [hx] at e1; exact hb e1
     | false => rw [hx] at e1; exact he e1
  ·rintro ch w2 ⟨rfl,rfl,h2⟩
   exact hE _ _ ⟨250,rfl,⟨fun _ => ⟨rfl,fun s' ws' _ he => by cases he⟩,fun x => (nomatch x)⟩,h2.drop⟩
end
end Go.Proofs.YtilenpnpnbdndaaGreatDoor
namespace Go.Proofs.YtilenpnpnbdndaaGreatDoor
open Go Go.Sh
set_option maxRecDepth 100000
def Fit (r : Bool) (n : Nat) (ws : List ByteArray) : Prop := (r = false -> ws.length + n <= 1000) /\ (r = true -> small ws)
theorem Fit.step {r : Bool} {n : Nat} {ws ws' : List ByteArray} {it : It} {S S' : Sc} (h : Fit r (n + 1) ws) (hs : Stp r it S ws S' ws') : Fit r n ws' := by
 refine ⟨fun hr => ?_,fun hr x hx => ?_⟩
 ·have := h.1 hr
  rw [(hs.2.2.2.2 hr).2]
  simp
  omega
 ·refine h.2 hr x ?_
  rw [hs.2.2.2.1 hr]
  exact List.mem_cons_of_mem _ hx
theorem Fit.steps {r : Bool} {n : Nat} : ∀ {l : List It} {ws ws' : List ByteArray} {S S' : Sc},Fit r (n + l.length) ws -> Sts r l S ws S' ws' -> Fit r n ws'
 | [],_,_,_,_,h,⟨_,e⟩ => by subst e; exact h
 | it :: l,_,_,_,_,h,⟨_,_,h1,h2⟩ => Fit.steps (l := l) (Fit.step (n := n + l.length) (by rw [Nat.add_assoc]; exact h) h1) h2
theorem Fit.less {r : Bool} {n m : Nat} {ws : List ByteArray} (h : Fit r n ws) (hm : m <= n) : Fit r m ws := ⟨fun hr => by have := h.1 hr; omega,h.2⟩
theorem Fit.one {r : Bool} {n : Nat} {ws : List ByteArray} (h : Fit r (n + 1) ws) : r = false -> ws.length <= 1000 := fun hr => by have := h.1 hr; omega
theorem ty_num {S S' : Sc} {o o' m m' : Nat} {k : IntKind} (ht : tyI S (.num o' k m')) (h : Chg S S' (.num o k m)) : tyI S' (.num o' k m') := by
 obtain ⟨n,rfl⟩ := h
 show _ = some _
 by_cases e : o = o'
 ·subst e
  rw [set_at ht,iAt_of (set_at ht)]
 ·rw [iAt_set e,Array.getElem?_setIfInBounds_ne e]
  exact ht
def namedI : List ByteArray -> List Nat -> List It
 | n :: ns,o :: os => .lit n :: .num o .i64 1099511627776 :: namedI ns os
 | _,_ => []
theorem namedI_len : ∀ (ns : List ByteArray) (os : List Nat),ns.length = os.length -> (namedI ns os).length = 2 * ns.length
 | [],[],_ => rfl
 | n :: ns,o :: os,h => by
  have := namedI_len ns os (by simpa using h)
  simp [namedI,this]
  omega
 | [],_ :: _,h => by simp at h
 | _ :: _,[],h => by simp at h
section
variable {W w : World} {M : List HP} {lb cb : Nat} {r : Bool} {T : TypeId}
def nmV (ns : List ByteArray) : Array Value := (wsV ns).toArray
def ptV (cb : Nat) (os : List Nat) : Array Value := (os.map fun o => Value.pointer (some ⟨cb,o,none⟩)).toArray
theorem F59_loop [Esc] {ns : List ByteArray} {os : List Nat} {nb xb : Nat} {K0 : World -> Prop} (hT : TB W) (hN : ns.length <= 1000) :
  ∀ (ns2 : List ByteArray) (os2 : List Nat) (ns1 : List ByteArray) (os1 : List Nat) (k : Nat) (S : Sc) (ws : List ByteArray) (w : World),ns = ns1 ++ ns2 -> os = os1 ++ os2 -> ns1.length = os1.length -> ns2.length = os2.length -> ns2.length < k ->
   Hs W (lnP lb r ws :: pt cb (.cells S.cs T (0,0)) :: pt nb (.cells (nmV ns) 9 (0,0)) :: pt xb (.cells (ptV cb os) 129 (0,0)) :: M) w ->
   (∀ o ∈ os2,tyI S (.num o .i64 1099511627776)) -> Fit r (2 * ns2.length) ws ->
   (∀ S' ws' w',Sts r (namedI ns2 os2) S ws S' ws' -> Hs W (lnP lb r ws' :: pt cb (.cells S'.cs T (0,0)) :: pt nb (.cells (nmV ns) 9 (0,0)) :: pt xb (.cells (ptV cb os) 129 (0,0)) :: M) w' -> K0 w') ->
   (∀ ch w' c,ch = PE c -> Bad r (namedI ns2 os2) S ws c -> Hs W M w' -> Esc.E ch w') ->
   F59_1 K0 k (.pointer (some ⟨lb,0,none⟩)) (.slice (some ⟨xb,0,none⟩) os.length os.length) (.slice (some ⟨nb,0,none⟩) ns.length ns.length) (.int .i64 (ns.length : Int)) (.int .i64 (ns1.length : Int)) w := by
 intro ns2
 induction ns2 with
 | nil =>
  intro os2 ns1 os1 k S ws w hn ho h1 h2 hk h ht hf hK hE
  obtain ⟨k,rfl⟩ : ∃ i,k = i + 1 := ⟨k - 1,by omega⟩
  have : os2 = [] := by cases os2 with | nil => rfl | cons _ _ => simp at h2
  subst this
  show F59_1B _ _ _ _ _ _ _ _
  unfold F59_1B
  simp only [rdP_mk,rdC_mk,rdI_mk]
  have e : decide ((ns1.length : Int) < (ns.length : Int)) = false := by rw [hn]; simp
  rw [e,br_false]
  exact hK S ws w ⟨rfl,rfl⟩ h
 | cons n ns2 ih =>
  intro os2 ns1 os1 k S ws w hn ho h1 h2 hk h ht hf hK hE
  obtain ⟨k,rfl⟩ : ∃ i,k = i + 1 := ⟨k - 1,by omega⟩
  obtain ⟨o,os2,rfl⟩ : ∃ o t,os2 = o :: t := by cases os2 with | nil => simp at h2 | cons o t => exact ⟨o,t,rfl⟩
  show F59_1B _ _ _ _ _ _ _ _
  unfold F59_1B
  simp only [rdP_mk,rdC_mk,rdI_mk]
  have hnl : ns.length = ns1.length + (ns2.length + 1) := by rw [hn]; simp
  have hol : os.length = ns.length := by rw [ho,hnl,h1]; simp at h2 ⊢; omega
  have e : decide ((ns1.length : Int) < (ns.length : Int)) = true := by rw [hnl]; simp; omega
  rw [e,br_true]
  refine ixS_to (p := ns1.length) rfl (by omega) ?_
  rw [Nat.mul_one,add_mk]
  refine h.ldS 2 rfl (n := n) ?_ ?_
  ·show (nmV ns)[0 + ns1.length]? = _
   rw [hn]
   simp [nmV,wsV]
  ·have hf1 : Fit r (2 * ns2.length + 1 + 1) ws := hf.less (by simp; omega)
   refine clp (c50 (S := S) h hf1.one) ?_ ?_
   ·rintro _ w2 ⟨rfl,ws1,hs1,h2'⟩
    refine ⟨rfl,ixS_to (p := ns1.length) rfl (by omega) ?_⟩
    rw [Nat.mul_one,add_mk]
    have hf2 := hf1.step hs1
    refine h2'.ldP 3 rfl (n := some ⟨cb,o,none⟩) ?_ ?_
    ·show (ptV cb os)[0 + ns1.length]? = _
     rw [ho,h1]
     simp [ptV]
    ·refine clp (c90 hT h2' (ht o (by simp)) hf2.one hf2.2) ?_ ?_
     ·rintro _ w3 ⟨rfl,S',ws',hs2,h3⟩
      refine ⟨rfl,?_⟩
      have e3 : IntKind.wrap .i64 ((ns1.length : Int) + 1) = (((ns1 ++ [n]).length : Nat) : Int) := by rw [wrap_i64 (by omega) (by omega)]; simp
      rw [e3]
      have hst : Sts r [It.lit n,It.num o .i64 1099511627776] S ws S' ws' := ⟨_,_,hs1,_,_,hs2,rfl,rfl⟩
      refine ih os2 (ns1 ++ [n]) (os1 ++ [o]) k S' ws' w3 (by rw [hn]; simp) (by rw [ho]; simp) (by simp [h1]) (by simpa using h2) (by simp at hk; omega) h3 (fun o' ho' => ty_num (ht o' (by simp [ho'])) hs2.1) (hf2.step hs2) (fun S2 ws2 w4 hs h4 => ?_) (fun ch w4 c hc hb hs => ?_)
      ·exact hK S2 ws2 w4 (Sts.app hst hs) h4
      ·exact hE ch w4 c hc (Bad.wide _ [] hst hb (by simp [namedI])) hs
     ·rintro ch w3 ⟨c,rfl,hno,hs⟩
      exact hE _ _ c rfl (Sts.no (namedI ns2 os2) (l := [It.lit n]) ⟨_,_,hs1,rfl,rfl⟩ hno rfl) hs.drop.drop
   ·rintro ch w2 ⟨c,rfl,hno,hs⟩
    exact hE _ _ c rfl (Sts.no (s := S) (.num o .i64 1099511627776 :: namedI ns2 os2) (l := []) ⟨rfl,rfl⟩ hno rfl) hs.drop.drop.drop
theorem c59 {ns : List ByteArray} {os : List Nat} {nb xb n : Nat} {S : Sc} {ws : List ByteArray} (hT : TB W) (hn : ns.length = n) (ho : os.length = n) (hN : n <= 100)
  (h : Hs W (lnP lb r ws :: pt cb (.cells S.cs T (0,0)) :: pt nb (.cells (nmV ns) 9 (0,0)) :: pt xb (.cells (ptV cb os) 129 (0,0)) :: M) w)
  (ht : ∀ o ∈ os,tyI S (.num o .i64 1099511627776)) (hf : Fit r (2 * n) ws) :
  Calls Tryz.prog 59 #[.pointer (some ⟨lb,0,none⟩),.slice (some ⟨nb,0,none⟩) n n,.slice (some ⟨xb,0,none⟩) n n] w
   (rtp (fun v w' => v = .tuple #[] /\ ∃ S' ws',Sts r (namedI ns os) S ws S' ws' /\ Hs W (lnP lb r ws' :: pt cb (.cells S'.cs T (0,0)) :: M) w')
    (fun ch w' => ∃ c,ch = PE c /\ Bad r (namedI ns os) S ws c /\ Hs W M w')) := by
 subst hn
 refine escI fun hE => F59_ok ?_
 unfold F59
 simp only [rdP_mk,rdC_mk]
 refine ⟨ns.length + 1,?_⟩
 have hs := F59_loop (ns := ns) (os := os) (K0 := fun w' => Tm -> True /\ ∃ S' ws',Sts r (namedI ns os) S ws S' ws' /\ Hs W (lnP lb r ws' :: pt cb (.cells S'.cs T (0,0)) :: M) w') hT (by omega) ns os [] [] (ns.length + 1) S ws w rfl rfl rfl ho.symm (by omega) h ht hf
  (fun S' ws' w' hs h' _ => ⟨trivial,S',ws',hs,(h'.erase 2).erase 2⟩) (fun ch w' c hc hb hs => hE _ _ ⟨c,hc,hb,hs⟩)
 rw [ho] at hs
 exact hs
end
end Go.Proofs.YtilenpnpnbdndaaGreatDoor
namespace Go.Proofs.YtilenpnpnbdndaaGreatDoor
open Go Go.Sh
set_option maxRecDepth 100000
attribute [local instance] Esc.none
noncomputable def E25i : TypeInfo := (Tryz.prog.info? 5).getD default
theorem E25 : ElemT Tryz.prog 25 5 1 1 (.int .u8 0) E25i := ⟨by kernel_rfl,by kernel_rfl,by kernel_rfl,by kernel_rfl,by kernel_rfl,rfl,by decide⟩
def dgS : ByteArray := ⟨#[48,49,50,51,52,53,54,55,56,57,97,98,99,100,101,102]⟩
theorem dg_at : ∀ n : Fin 16,dgS.data[n.val]? = some (hxd n.val) := by decide +kernel
theorem dg_idx : ∀ b : Fin 256,(∃ n : Fin 16,UInt8.ofNat b.val = hxd n.val /\ Lib.indexByte dgS.data.toList (UInt8.ofNat b.val) = (n.val : Int)) \/ (Lib.indexByte dgS.data.toList (UInt8.ofNat b.val) < 0 /\ ∀ n : Fin 16,UInt8.ofNat b.val ≠ hxd n.val) := by decide +kernel
theorem dg_byte : ∀ a b : Fin 16,IntKind.wrap .u8 (bitI .or .i64 (IntKind.wrap .i64 ((a.val : Int) * 2 ^ (min 4 (IntKind.bits .i64)))) (b.val : Int)) = ((a.val * 16 + b.val : Nat) : Int) := by decide +kernel
theorem dg_hi : ∀ b : Fin 256,Int.fdiv (b.val : Int) (2 ^ (min 4 (IntKind.bits .u8))) = ((b.val / 16 : Nat) : Int) := by decide +kernel
theorem dg_lo : ∀ b : Fin 256,bitI .and .u8 (b.val : Int) 15 = ((b.val % 16 : Nat) : Int) := by decide +kernel
theorem hxd_inj : ∀ a b : Fin 16,hxd a.val = hxd b.val -> a = b := by decide +kernel
theorem hxd_ne : ∀ a : Fin 16,hxd a.val ≠ 45 /\ hxd a.val ≠ 32 := by decide +kernel
theorem ixT_dg {n : Nat} {K : Int -> Prop} (h : n < 16) (hk : K ((hxd n).toNat : Int)) : ixT ⟨#[48,49,50,51,52,53,54,55,56,57,97,98,99,100,101,102]⟩ (n : Int) K :=
 ⟨hxd n,⟨by omega,dg_at ⟨n,h⟩⟩,hk⟩
theorem idx_dg (b : UInt8) : (∃ n,n < 16 /\ b = hxd n /\ Lib.indexByte dgS.data.toList b = (n : Int)) \/ (Lib.indexByte dgS.data.toList b < 0 /\ ∀ n,n < 16 -> b ≠ hxd n) := by
 have h := dg_idx ⟨b.toNat,b.toNat_lt⟩
 simp only [UInt8.ofNat_toNat] at h
 rcases h with ⟨n,h1,h2⟩ | ⟨h1,h2⟩
 ·exact .inl ⟨n.val,n.isLt,h1,h2⟩
 ·exact .inr ⟨h1,fun n hn => h2 ⟨n,hn⟩⟩
theorem hexs_nil : hexs [] = [] := rfl
theorem hexs_app (a b : List UInt8) : hexs (a ++ b) = hexs a ++ hexs b := by simp [hexs]
theorem hexs_cons (b : UInt8) (l : List UInt8) : hexs (b :: l) = hxd (b.toNat / 16) :: hxd (b.toNat % 16) :: hexs l := rfl
theorem hexs_len (l : List UInt8) : (hexs l).length = 2 * l.length := by
 induction l with
 | nil => rfl
 | cons b l ih => rw [hexs_cons]; simp [ih]; omega
theorem hexs_drop (l : List UInt8) : ∀ j,(hexs l).drop (2 * j) = hexs (l.drop j) := by
 induction l with
 | nil => intro j; simp [hexs_nil]
 | cons b l ih =>
  intro j
  cases j with
  | zero => rfl
  | succ j => rw [hexs_cons,show 2 * (j + 1) = 2 * j + 1 + 1 by omega]; simp [ih]
theorem hex_byte {a b : Nat} (ha : a < 16) (hb : b < 16) : (UInt8.ofNat (a * 16 + b)).toNat = a * 16 + b := by rw [UInt8.toNat_ofNat']; omega
theorem u8v_app (a b : List UInt8) : u8v (a ++ b) = u8v a ++ u8v b := by simp [u8v]
theorem u8v_one (l : List UInt8) : ∀ u ∈ u8v l,u.oneCell' = true := fun u hu => by
 obtain ⟨b,_,rfl⟩ := List.mem_map.1 hu
 rfl
theorem u8v_len (l : List UInt8) : (u8v l).length = l.length := by simp [u8v]
theorem rd_blk {w : World} {b : Nat} {cs : List Value} {T : TypeId} {z : Nat × Nat} (h : w.heap[b]? = some (.cells cs.toArray T z)) : Rd w (some ⟨b,0,none⟩) cs := fun j u hj => by
 refine ⟨_,rfl,?_⟩
 rw [add_mk,cell_at h]
 simpa using hj
theorem run_bs {w : World} {a : Option Addr} {l : List UInt8} {c : Nat} (hr : Rd w a (u8v l)) : Sem.run Tryz.prog (convert 25 9 (.slice a l.length c)) w = .ok (.string (bs l)) w := by
 cases a with
 | none =>
  have : l = [] := by
   cases l with
   | nil => rfl
   | cons x r => obtain ⟨ad,e⟩ := hr.some (by simp [u8v]); cases e
  subst this
  show Sem.run Tryz.prog (convert 25 9 (.slice none 0 c)) w = _
  rw [run_convert_bytes_string w 25 9 5 none 0 c Tryz.underlying25 Tryz.underlying5 Tryz.underlying9]
  rfl
 | some ad =>
  exact run_convert_bytes_back (P := Tryz.prog) w 25 9 5 ad c l Tryz.underlying25 Tryz.underlying5 Tryz.underlying9 (fun j hj => hr.at (by simp [u8v,hj]))
theorem hexW_len (l : List UInt8) : (hexW l).length <= 2 * l.length + 1 := by
 unfold hexW
 split
 ·simp
 ·rw [hexs_len]; omega
section
variable {W w : World} {M : List HP} {lb : Nat} {r : Bool} {ws : List ByteArray}
theorem F58_2_loop {a : Option Addr} {c : Nat} {l : List UInt8} {K0 : Value -> Value -> Value -> World -> Prop} (hlen : l.length <= 65536) (hrd : ∀ w',Hs W (lnP lb r ws :: M) w' -> Rd w' a (u8v l)) :
  ∀ (l2 l1 : List UInt8) (k : Nat) (ba : Option Addr) (bc : Nat) (w : World),l = l1 ++ l2 -> l2.length < k -> Hs W (slP 5 1 ba (2 * l1.length) bc (u8v (hexs l1)) :: lnP lb r ws :: M) w ->
   (∀ ba' bc' w',Hs W (slP 5 1 ba' (2 * l.length) bc' (u8v (hexs l)) :: lnP lb r ws :: M) w' -> K0 (.pointer (some ⟨lb,0,none⟩)) (.slice a l.length c) (.slice ba' (2 * l.length) bc') w') ->
   F58_2 K0 k (.pointer (some ⟨lb,0,none⟩)) (.slice a l.length c) (.slice ba (2 * l1.length) bc) (.slice a l.length c) (.int .i64 (l.length : Int)) (.int .i64 (l1.length : Int)) w := by
 intro l2
 induction l2 with
 | nil =>
  intro l1 k ba bc w hl hk h hK
  obtain ⟨k,rfl⟩ : ∃ i,k = i + 1 := ⟨k - 1,by omega⟩
  rw [List.append_nil] at hl
  subst hl
  show F58_2B _ _ _ _ _ _ _ _ _
  unfold F58_2B
  simp only [rdP_mk,rdC_mk,rdI_mk]
  rw [decide_eq_false (by omega),br_false]
  exact hK ba bc w h
 | cons b l2 ih =>
  intro l1 k ba bc w hl hk h hK
  obtain ⟨k,rfl⟩ : ∃ i,k = i + 1 := ⟨k - 1,by omega⟩
  have hll : l.length = l1.length + (l2.length + 1) := by rw [hl]; simp
  show F58_2B _ _ _ _ _ _ _ _ _
  unfold F58_2B
  simp only [rdP_mk,rdC_mk,rdI_mk]
  rw [decide_eq_true (by omega),br_true]
  have hr := hrd w h.drop
  obtain ⟨ad,rfl⟩ := hr.some (by simp [u8v]; omega)
  refine ixS_to (p := l1.length) rfl (by omega) ?_
  rw [Nat.mul_one]
  refine ldI_c (n := (b.toNat : Int)) (hr.at (by rw [hl]; simp [u8v])) ?_
  refine h.drw fun w2 h2 => ?_
  have hb := b.toNat_lt
  rw [dg_hi ⟨b.toNat,hb⟩,dg_lo ⟨b.toNat,hb⟩]
  refine ixT_dg (by omega) (ixT_dg (by omega) ?_)
  refine h2.alc fun nb w3 h3 => ?_
  refine h3.append E25 1 rfl (m := 2) (news := u8v [hxd (b.toNat / 16),hxd (b.toNat % 16)]) (by simp [u8v]) (rd_blk (h3.at 0 rfl)) (u8v_one _) (by omega) (by omega) fun a' c' w4 h4 _ => ?_
  have h5 : Hs W (slP 5 1 a' (2 * l1.length + 2) c' (u8v (hexs l1) ++ u8v [hxd (b.toNat / 16),hxd (b.toNat % 16)]) :: lnP lb r ws :: M) w4 := h4.erase 0
  have e1 : 2 * l1.length + 2 = 2 * (l1 ++ [b]).length := by simp; omega
  have e2 : u8v (hexs l1) ++ u8v [hxd (b.toNat / 16),hxd (b.toNat % 16)] = u8v (hexs (l1 ++ [b])) := by rw [hexs_app,u8v_app]; rfl
  rw [e1,e2] at h5
  have e3 : IntKind.wrap .i64 ((l1.length : Int) + 1) = (((l1 ++ [b]).length : Nat) : Int) := by rw [wrap_i64 (by omega) (by omega)]; simp
  rw [e3,e1]
  exact ih (l1 ++ [b]) k a' c' w4 (by rw [hl]; simp) (by simp at hk; omega) h5 hK
theorem c58w {a : Option Addr} {c : Nat} {l : List UInt8} (h : Hs W (lnP lb false ws :: M) w) (hrd : ∀ w',Hs W (lnP lb false ws :: M) w' -> Rd w' a (u8v l)) (hl : ws.length <= 1000) :
  Calls Tryz.prog 58 #[.pointer (some ⟨lb,0,none⟩),.slice a l.length c] w (rtp (fun v w' => v = .slice a l.length c /\ l.length <= 65536 /\ Hs W (lnP lb false (ws ++ [bs (hexW l)]) :: M) w') (fun ch w' => ¬ l.length <= 65536 /\ ch = PE 1 /\ Hs W M w')) := by
 refine escI fun hE => F58_ok ?_
 obtain ⟨la,lc,h1⟩ := ln_open h
 unfold F58
 simp only [rdP_mk,rdC_mk,nn]
 refine h1.ldB 0 rfl rfl ?_
 rw [Bool.not_false,br_true]
 refine clp c28 ?_ ?_
 ·rintro _ w1 ⟨hb,rfl,rfl⟩
  have hb : ((l.length : Nat) : Int) <= 65536 := of_decide_eq_true hb
  have hle : l.length <= 65536 := by omega
  refine ⟨rfl,?_⟩
  have e0 : IntKind.wrap .i64 (IntKind.wrap .i64 (2 * (l.length : Int)) + 1) = ((2 * l.length + 1 : Nat) : Int) := by
   have : IntKind.wrap .i64 (2 * (l.length : Int)) = 2 * (l.length : Int) := wrap_i64 (by omega) (by omega)
   rw [this,wrap_i64 (by omega) (by omega)]; omega
  rw [e0]
  obtain ⟨w2,hr2,ho,hg⟩ := run_makeSlice_owned (P := Tryz.prog) w1 w1.heap.size 25 5 E25i (.int .u8 0) 1 E25.ht E25.hi E25.hz E25.hsize .i64 .i64 (2 * l.length + 1) (by omega) (by rw [E25.hby]; omega) (by unfold maxLen; omega) (Nat.le_refl _)
  refine ⟨_,_,_,w2,hr2,l.length + 1,?_⟩
  have hs2 : Same w1 w2 := ⟨hg.os,hg.tape,hg.output,hg.size,fun k hk _ => hg.block k hk (by simp)⟩
  have h2 : Hs W (slP 5 1 (some ⟨w1.heap.size,0,none⟩) 0 (2 * l.length + 1) [] :: lnP lb false ws :: M) w2 := h.own_new hs2 ho
  refine F58_2_loop (l := l) hle hrd l [] (l.length + 1) _ _ w2 rfl (by omega) h2 fun ba bc w3 h3 => ?_
  intro _
  simp only [rdP_mk,rdC_mk]
  cases hl0 : l with
  | nil =>
   rw [hl0] at h3
   have e1 : (((([] : List UInt8).length : Nat) : Int) == 0) = true := rfl
   rw [e1,br_true]
   refine h3.alc fun nb w4 h4 => ?_
   refine h4.append E25 1 rfl (m := 1) (news := u8v [45]) (by simp [u8v]) (rd_blk (h4.at 0 rfl)) (u8v_one _) (by simp) (by simp) fun a' c' w5 h5 _ => ?_
   have h6 : Hs W (slP 5 1 a' 1 c' (u8v [45]) :: lnP lb false ws :: M) w5 := h5.erase 0
   refine ⟨_,_,run_bs (l := [45]) (h6.rd 0 rfl),?_⟩
   exact put1 h6.drop hl fun w7 h7 => ⟨rfl,by first | rfl | trivial,by simp,h7⟩
  | cons x y =>
   have e1 : ((((x :: y).length : Nat) : Int) == 0) = false := beq_eq_false_iff_ne.2 (by simp; omega)
   rw [e1,br_false,← hl0]
   have hh : (hexs l).length = 2 * l.length := hexs_len l
   have hr3 := h3.rd 0 rfl
   rw [← hh]
   refine ⟨_,_,run_bs hr3,?_⟩
   have e2 : hexW l = hexs l := by unfold hexW; rw [hl0,if_neg (by simp)]
   refine put1 h3.drop hl fun w7 h7 => ⟨rfl,by first | rfl | trivial,hle,?_⟩
   rw [e2]
   exact h7
 ·rintro ch _ ⟨hb,rfl,rfl⟩
  have hb := of_decide_eq_false hb
  exact hE _ _ ⟨by omega,rfl,h.drop⟩
end
end Go.Proofs.YtilenpnpnbdndaaGreatDoor
