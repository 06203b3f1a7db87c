/- Own text: part of the shallow reading of the code and of the contracts that are proved over it. -/
import Derived.Test.YtilenpnpnbdndaaGreatDoorRtH
namespace Go.Proofs.YtilenpnpnbdndaaGreatDoor
open Go Go.Sh
set_option maxRecDepth 100000
attribute [local instance] Esc.none
theorem vtab_name_ne : ∀ t ∈ vtab,t.2.1 ≠ ⟨#[]⟩ := by
 have : vtab.all (fun t => !(bl t.2.1).isEmpty) = true := by decide +kernel
 intro t ht e
 have := List.all_eq_true.1 this t ht
 rw [e] at this
 cases this
theorem line_ne {t : Vb} (ht : t ∈ vtab) (s : Sc) : lineOf (itemsOf t) s ≠ ⟨#[]⟩ := by
 intro e
 have h1 := LineOk.words_eq ht s
 rw [e] at h1
 have h2 : words ⟨#[]⟩ = [⟨#[]⟩] := rfl
 rw [h2] at h1
 injection h1 with h1 _
 exact vtab_name_ne t ht h1.symm
theorem mask_holds {w : World} {R : R26} {dat : List UInt8} (h : Holds26 w R dat) (t : Vb) : Holds26 w (maskR t R) (maskD t dat) := by
 unfold maskR maskD
 cases hb : t.2.2.contains 75 with
 | true => exact ⟨h.len,h.rd⟩
 | false => exact ⟨rfl,Rd.nil _ _⟩
section
variable {W w : World} {M : List HP}
theorem F9_1_go {R : R26} {dat : List UInt8} {b : Nat} {Kr : Value -> Value -> World -> Prop} (hT : TB W) (hd : Holds26 W R dat) (hF : Fine R dat) (h : Hs W (pt b (.cells R.c 27 (0,0)) :: M) w)
  (hK : ∀ w' t,LineOk t R dat -> Hs W M w' -> Kr (.string (lineOf (itemsOf t) ⟨R.c,dat⟩)) (.int .i64 0) w') (hR : ∀ w',(∀ t,¬ LineOk t R dat) -> Hs W M w' -> Kr (.string ⟨#[]⟩) (.int .i64 1) w') :
  F9_1 Kr (.pointer (some ⟨b,0,none⟩)) w := by
 unfold F9_1
 simp only [rdA_mk]
 refine ldR26_of (s := R) (h.atL 0 rfl) ?_
 refine cl (c31 hT h hd hF) ?_
 rintro _ w2 ⟨h2,hv⟩
 rcases hv with ⟨t,hv,rfl⟩ | ⟨hv,rfl⟩
 ·obtain ⟨ht,hk⟩ := vfind_mem hv
  have hk : R.f0 = t.1 := by
    have : t.1 = R.f0 := by simpa using hk
    exact this.symm
  refine ⟨_,exR26_of (maskR t R) ⟨rfl,h2.alc fun b7 w3 h3 => h3.stcL 0 rfl (by rfl) fun w4 h4 => ?_⟩⟩
  have h4 : Hs W (pt b7 (.cells (maskR t R).c 27 (0,0)) :: pt b (.cells R.c 27 (0,0)) :: M) w4 := h4
  rw [str_beq,decide_eq_false (line_ne ht _),br_false]
  refine ldR26_of (s := R) (h4.atL 1 rfl) (ldR26_of (s := maskR t R) (h4.atL 0 rfl) ?_)
  have hd4 := hd.same h4.old
  refine cl (c12 h4 hd4 (mask_holds hd4 t)) ?_
  rintro _ w5 ⟨rfl,h5⟩
  refine ⟨_,rfl,?_⟩
  have hml := mask_line (dat := dat) ht hk (fine_ok ht hF)
  cases hb : sameB R dat (maskR t R) (maskD t dat) with
  | true =>
   rw [Bool.not_true,br_false]
   exact hK w5 t (hml.1 (sameB_iff.1 hb)) h5.drop.drop
  | false =>
   rw [Bool.not_false,br_true]
   refine hR w5 (fun t' ht' => ?_) h5.drop.drop
   have e : t' = t := vtab_kinds _ ht'.mem _ ht (by rw [← ht'.kind,hk])
   subst e
   rw [sameB_iff.2 (hml.2 ht')] at hb
   cases hb
 ·refine ⟨_,exR26_of R26.zz ⟨rfl,h2.alc fun b7 w3 h3 => h3.stcL 0 rfl (by rfl) fun w4 h4 => ?_⟩⟩
  rw [str_beq,decide_eq_true rfl,br_true]
  refine hR w4 (fun t' ht' => ?_) h4.drop.drop
  have := vfind_none hv t' ht'.mem
  rw [ht'.kind] at this
  simp at this
theorem c9 {R : R26} {dat : List UInt8} (hT : TB W) (h : Hs W M w) (hG : GoodD ⟨R.c,dat⟩) (hd : Holds26 W R dat) : Calls Tryz.prog 9 #[R.v] w (rt fun v w' => Hs W M w' /\
  ((∃ t,LineOk t R dat /\ v = .tuple #[.string (lineOf (itemsOf t) ⟨R.c,dat⟩),.int .i64 0]) \/ ((∀ t,¬ LineOk t R dat) /\ v = .tuple #[.string ⟨#[]⟩,.int .i64 1]))) := by
 refine F9_ok ?_
 unfold F9
 refine exR26_of R ⟨rfl,h.alc fun b w2 h2 => h2.ldC 0 rfl rfl ?_⟩
 have hbad : ∀ w',Hs W (pt b (.cells R.c 27 (0,0)) :: M) w' -> ¬ Fine R dat -> Hs W M w' /\
  ((∃ t,LineOk t R dat /\ Value.tuple #[.string ⟨#[]⟩,.int .i64 1] = .tuple #[.string (lineOf (itemsOf t) ⟨R.c,dat⟩),.int .i64 0]) \/ ((∀ t,¬ LineOk t R dat) /\ Value.tuple #[.string ⟨#[]⟩,.int .i64 1] = .tuple #[.string ⟨#[]⟩,.int .i64 1])) :=
  fun w' h' hn => ⟨h'.drop,.inr ⟨fun t ht => hn (ht.fine hG),rfl⟩⟩
 refine br_and (fun e => hbad _ h2 fun hF => ?_) (fun e1 => ?_)
 ·have := of_decide_eq_true e
  have h3 := hF.dat
  rw [hd.len] at this
  omega
 have hdl : dat.length <= 65536 := by have := of_decide_eq_false e1; rw [hd.len] at this; omega
 refine h2.ldS 0 rfl rfl ?_
 refine br_and (fun e => hbad _ h2 fun hF => ?_) (fun e2 => ?_)
 ·have := of_decide_eq_true e
  have h3 := hF.why
  omega
 have hwl : R.f11.size <= 65536 := by have := of_decide_eq_false e2; omega
 refine h2.ldI 0 rfl rfl (clr c30 ⟨_,rfl,br_and (fun e => hbad _ h2 fun hF => ?_) (fun n1 => ?_)⟩)
 ·rw [decide_eq_true hF.n1] at e; cases e
 have n1 := of_decide_eq_true (by simpa using n1 : decide _ = true)
 refine h2.ldI 0 rfl rfl (clr c30 ⟨_,rfl,br_and (fun e => hbad _ h2 fun hF => ?_) (fun n2 => ?_)⟩)
 ·rw [decide_eq_true hF.n2] at e; cases e
 have n2 := of_decide_eq_true (by simpa using n2 : decide _ = true)
 refine h2.ldI 0 rfl rfl (clr c30 ⟨_,rfl,br_and (fun e => hbad _ h2 fun hF => ?_) (fun n3 => ?_)⟩)
 ·rw [decide_eq_true hF.n3] at e; cases e
 have n3 := of_decide_eq_true (by simpa using n3 : decide _ = true)
 refine h2.ldI 0 rfl rfl (clr c30 ⟨_,rfl,br_and (fun e => hbad _ h2 fun hF => ?_) (fun n4 => ?_)⟩)
 ·rw [decide_eq_true hF.n4] at e; cases e
 have n4 := of_decide_eq_true (by simpa using n4 : decide _ = true)
 refine h2.ldI 0 rfl rfl (clr c30 ⟨_,rfl,br_and (fun e => hbad _ h2 fun hF => ?_) (fun n6 => ?_)⟩)
 ·rw [decide_eq_true hF.n6] at e; cases e
 have n6 := of_decide_eq_true (by simpa using n6 : decide _ = true)
 have hF : Fine R dat := ⟨n1,n2,n3,n4,n6,hG,hdl,hwl⟩
 refine F9_1_go hT hd hF h2 (fun w' t ht h' => ?_) (fun w' ht h' => ?_)
 ·intro _
  simp only [rdS_mk,rdI_mk]
  exact ⟨h',.inl ⟨t,ht,by first | rfl | trivial⟩⟩
 ·intro _
  simp only [rdS_mk,rdI_mk]
  exact ⟨h',.inr ⟨ht,by first | rfl | trivial⟩⟩
end
end Go.Proofs.YtilenpnpnbdndaaGreatDoor
namespace Go.Proofs.YtilenpnpnbdndaaGreatDoor
open Go Go.Sh
set_option maxRecDepth 100000
attribute [local instance] Esc.none
def lone2 (w : World) (b1 : Nat) (o1 : Obj) (b2 : Nat) (o2 : Obj) : World := { w with heap := ((Array.replicate (max b1 b2 + 1) (Obj.cells #[] 0 (0,0))).setIfInBounds b1 o1).setIfInBounds b2 o2 }
theorem lone2_at2 (w : World) (b1 : Nat) (o1 : Obj) (b2 : Nat) (o2 : Obj) : (lone2 w b1 o1 b2 o2).heap[b2]? = some o2 := by
 show (((Array.replicate (max b1 b2 + 1) (Obj.cells #[] 0 (0,0))).setIfInBounds b1 o1).setIfInBounds b2 o2)[b2]? = _
 rw [Array.getElem?_setIfInBounds_self,if_pos (by simp; omega)]
theorem lone2_at1 (w : World) (b1 : Nat) (o1 : Obj) (b2 : Nat) (o2 : Obj) (h : b1 ≠ b2) : (lone2 w b1 o1 b2 o2).heap[b1]? = some o1 := by
 show (((Array.replicate (max b1 b2 + 1) (Obj.cells #[] 0 (0,0))).setIfInBounds b1 o1).setIfInBounds b2 o2)[b1]? = _
 rw [Array.getElem?_setIfInBounds_ne (fun e => h e.symm),Array.getElem?_setIfInBounds_self,if_pos (by simp; omega)]
theorem lone2_other {w : World} {b1 : Nat} {o1 : Obj} {b2 : Nat} {o2 o : Obj} {k : Nat} (h : (lone2 w b1 o1 b2 o2).heap[k]? = some o) (h1 : k ≠ b1) (h2 : k ≠ b2) : o = .cells #[] 0 (0,0) := by
 have h : (((Array.replicate (max b1 b2 + 1) (Obj.cells #[] 0 (0,0))).setIfInBounds b1 o1).setIfInBounds b2 o2)[k]? = some o := h
 rw [Array.getElem?_setIfInBounds_ne (fun e => h2 e.symm),Array.getElem?_setIfInBounds_ne (fun e => h1 e.symm),Array.getElem?_replicate] at h
 split at h
 ·exact (Option.some.inj h).symm
 ·cases h
theorem Pres_lone2 {w w' : World} {b1 : Nat} {o1 : Obj} {b2 : Nat} {o2 : Obj} (hne : b1 ≠ b2) (h1 : w'.heap[b1]? = some o1) (h2 : w'.heap[b2]? = some o2) : Go.Sh.Pres (lone2 w b1 o1 b2 o2) w' := by
 have l1 := lt_of_blk h1
 have l2 := lt_of_blk h2
 have key : ∀ k o,(lone2 w b1 o1 b2 o2).heap[k]? = some o -> w'.heap[k]? = some o \/ o = Obj.cells #[] 0 (0,0) := fun k o e => by
  by_cases e2 : k = b2
  ·subst e2; rw [lone2_at2] at e; cases e; exact .inl h2
  ·by_cases e1 : k = b1
   ·subst e1; rw [lone2_at1 _ _ _ _ _ hne] at e; cases e; exact .inl h1
   ·exact .inr (lone2_other e e1 e2)
 refine ⟨?_,fun a v e => ?_,fun r es c e => ?_⟩
 ·show (((Array.replicate (max b1 b2 + 1) (Obj.cells #[] 0 (0,0))).setIfInBounds b1 o1).setIfInBounds b2 o2).size <= _
  simp; omega
 ·unfold World.cell? at e ⊢
  cases hk : (lone2 w b1 o1 b2 o2).heap[a.block]? with
  | none => rw [hk] at e; cases e
  | some o =>
   rw [hk] at e
   rcases key _ _ hk with h | h
   ·rw [h]; exact e
   ·subst h
    exfalso
    revert e
    simp
 ·rcases key _ _ e with h | h
  ·exact h
  ·cases h
section
variable {W w : World} {M : List HP}
theorem sl_open {e : TypeId} {n c : Nat} {a : Option Addr} {xs : List Value} {L : List HP} (hn : 0 < n) (h : Hs W (slP e 1 a n c xs :: L) w) : ∃ g cur,a = some ⟨g,0,none⟩ /\ Hs W (pt g (.cells cur e (0,0)) :: L) w /\ ∀ (j : Nat) (u : Value),xs[j]? = some u -> cur[j]? = some u := by
 obtain ⟨f,hh,⟨x,y,hx,hy,d,rfl⟩,ag',b⟩ := h
 obtain ⟨hl,hx⟩ := hx
 rcases hx with ⟨rfl,rfl,_⟩ | ⟨g,cur,rfl,h1,h2,h3,h4,h5⟩
 ·omega
 ·refine ⟨g,cur,rfl,⟨f,_,⟨x,y,h1,hy,d,rfl⟩,ag',b⟩,fun j u hj => ?_⟩
  rw [← h5] at hj
  have hjl := (List.getElem?_eq_some_iff.1 hj).1
  rw [List.getElem?_take_of_lt (by rw [List.length_take] at hjl; omega)] at hj
  rw [← Array.getElem?_toList]
  exact hj
theorem Deq.okI_eq {R R' : R26} {d d' : List UInt8} (h : Deq R d R' d') {it : It} (hn : notKey it = true) (hf : ∀ o ∈ foot it,o ≠ 10 \/ isDat it = true) : (okI ⟨R.c,d⟩ it ↔ okI ⟨R'.c,d'⟩ it) /\ wd ⟨R.c,d⟩ it = wd ⟨R'.c,d'⟩ it := by
 obtain ⟨hc,hd⟩ := h
 subst hd
 cases it with
 | lit x => exact ⟨Iff.rfl,rfl⟩
 | key => cases hn
 | dat o => exact ⟨Iff.rfl,rfl⟩
 | num o k m =>
  have ho : o ≠ 10 := (hf o (by simp [foot])).resolve_right (by simp [isDat])
  have e : iAt R.c o = iAt R'.c o := by unfold iAt; rw [hc o ho]
  simp only [okI,wd,e]
  exact ⟨by first | exact trivial | exact Iff.rfl,by first | exact trivial | rfl⟩
 | flag o a b =>
  have ho : o ≠ 10 := (hf o (by simp [foot])).resolve_right (by simp [isDat])
  have e : bAt R.c o = bAt R'.c o := by unfold bAt; rw [hc o ho]
  simp only [okI,wd,e]
  exact ⟨by first | exact trivial | exact Iff.rfl,by first | exact trivial | rfl⟩
 | why o =>
  have ho : o ≠ 10 := (hf o (by simp [foot])).resolve_right (by simp [isDat])
  have e : sAt R.c o = sAt R'.c o := by unfold sAt; rw [hc o ho]
  simp only [okI,wd,e]
  exact ⟨by first | exact trivial | exact Iff.rfl,by first | exact trivial | rfl⟩
theorem vtab_ten : ∀ t ∈ vtab,∀ it ∈ itemsOf t,∀ o ∈ foot it,o ≠ 10 \/ isDat it = true := by
 have : vtab.all (fun t => (itemsOf t).all fun it => (foot it).all fun o => o != 10 || isDat it) = true := by decide +kernel
 intro t ht it hi o ho
 have h := List.all_eq_true.1 (List.all_eq_true.1 (List.all_eq_true.1 this t ht) it hi) o ho
 simpa using h
theorem IsDeedT.eq {t : Vb} {s : ByteArray} {R R' : R26} {d d' : List UInt8} (h : IsDeedT t s R d) (e : Deq R d R' d') : IsDeedT t s R' d' := by
 have hnk := List.all_eq_true.1 (vtab_items t h.mem).2.1
 have hx := fun it hi => e.okI_eq (it := it) (hnk it hi) (vtab_ten t h.mem it hi)
 refine ⟨h.mem,fun it hi => (hx it hi).1.1 (h.ok it hi),?_,?_,fun o h0 h10 hf => ?_,fun hf => ?_⟩
 ·rw [h.words]
  exact List.map_congr_left fun it hi => (hx it hi).2
 ·have := e.cells 0 (by decide)
  have : some (Value.int .i64 R.f0) = some (Value.int .i64 R'.f0) := this
  injection this with this
  injection this with _ this
  rw [← this]; exact h.kind
 ·rw [← e.cells o h10]; exact h.away o h0 h10 hf
 ·rw [← e.dat]; exact h.data hf
theorem IsDeedT.lineOk {t : Vb} {s : ByteArray} {R : R26} {d : List UInt8} (h : IsDeedT t s R d) : LineOk t R d /\ lineOf (itemsOf t) ⟨R.c,d⟩ = s :=
 ⟨⟨h.mem,h.ok,h.kind,h.away,h.data⟩,by unfold lineOf; rw [← h.words,joined_words]⟩
theorem Deq.symm {R R' : R26} {d d' : List UInt8} (h : Deq R d R' d') : Deq R' d' R d := ⟨fun o ho => (h.cells o ho).symm,h.dat.symm⟩
theorem c9S {R : R26} {dat : List UInt8} (hT : TB w) (hG : GoodD ⟨R.c,dat⟩) (hd : Holds26 w R dat) : Calls Tryz.prog 9 #[R.v] w (rt fun v w' => Same w w' /\
  ((∃ t,LineOk t R dat /\ v = .tuple #[.string (lineOf (itemsOf t) ⟨R.c,dat⟩),.int .i64 0]) \/ ((∀ t,¬ LineOk t R dat) /\ v = .tuple #[.string ⟨#[]⟩,.int .i64 1]))) :=
 rt_mono (c9 (W := w) (M := []) hT (Hs.start w) hG hd) fun _ _ ⟨h,hv⟩ => ⟨h.old,hv⟩
theorem dt_holds {R : R26} {dat : List UInt8} (h : Hs W (dtP W R.c dat :: M) w) : Holds26 w R dat := by
 obtain ⟨a2,c2,hc2,hr2⟩ := dt_open h
 have e1 : some (Value.slice R.f10a R.f10n R.f10c) = some (Value.slice a2 dat.length c2) := hc2
 injection e1 with e1
 injection e1 with e1 e2 e3
 exact ⟨e2,by rw [e1]; exact hr2⟩
theorem F11_4_go {R : R26} {dat : List UInt8} {s : ByteArray} {db rb : Nat} {Kr : Value -> Value -> World -> Prop} (hT : TB W) (hG : GoodD ⟨R.c,dat⟩) (hlo : ∀ t R' d',IsDeedT t s R' d' -> Deq R' d' R dat)
  (h : Hs W (pt db (.cells R.c 27 (0,0)) :: dtP W R.c dat :: pt rb (.cells R26.zz.c 27 (0,0)) :: M) w)
  (hK : ∀ w',IsDeed s R dat -> Hs W (pt rb (.cells R.c 27 (0,0)) :: dtP W R.c dat :: M) w' -> Kr (.pointer (some ⟨rb,0,none⟩)) (.int .i64 0) w')
  (hR : ∀ w',(¬ ∃ R dat,IsDeed s R dat) -> Hs W (pt rb (.cells R26.zz.c 27 (0,0)) :: M) w' -> Kr (.pointer (some ⟨rb,0,none⟩)) (.int .i64 250) w') :
  F11_4 Kr (.string s) (.pointer (some ⟨rb,0,none⟩)) (.pointer (some ⟨db,0,none⟩)) w := by
 unfold F11_4
 simp only [rdS_mk,rdA_mk]
 refine ldR26_of (s := R) (h.atL 0 rfl) ?_
 refine cl (c9S (Hs.tb h hT) hG (dt_holds (h.focus (i := 1) rfl))) ?_
 rintro _ w2 ⟨hs,hv⟩
 have h2 := h.same hs
 have hbad : (∀ t,¬ (LineOk t R dat /\ lineOf (itemsOf t) ⟨R.c,dat⟩ = s)) -> ¬ ∃ R dat,IsDeed s R dat := by
  rintro hn ⟨R',d',t,ht⟩
  exact hn t (ht.eq (hlo t R' d' ht)).lineOk
 rcases hv with ⟨t,ht,rfl⟩ | ⟨ht,rfl⟩
 ·refine ⟨_,_,rfl,?_⟩
  have e0 : ((0 : Int) != 0) = false := rfl
  rw [e0,br_false,str_beq]
  by_cases e : lineOf (itemsOf t) ⟨R.c,dat⟩ = s
  ·rw [decide_eq_true e,Bool.not_true,br_false]
   refine ldR26_of (s := R) (h2.atL 0 rfl) (h2.stcL 2 rfl (by rfl) fun w4 h4 => hK w4 ?_ ?_)
   ·have := ht.deed
    rw [e] at this
    exact ⟨t,this⟩
   ·have h4 : Hs W (pt db (.cells R.c 27 (0,0)) :: dtP W R.c dat :: pt rb (.cells R.c 27 (0,0)) :: M) w4 := h4
    exact (h4.drop).focus (i := 1) rfl
  ·rw [decide_eq_false e,Bool.not_false,br_true]
   refine h2.stcL 2 rfl (by rfl) fun w4 h4 => hR w4 (hbad fun t' ht' => ?_) h4.drop.drop
   have e1 := ht.one ht'.1
   subst e1
   exact e ht'.2
 ·refine ⟨_,_,rfl,?_⟩
  have e0 : ((1 : Int) != 0) = true := rfl
  rw [e0,br_true]
  exact h2.stcL 2 rfl (by rfl) fun w4 h4 => hR w4 (hbad fun t' ht' => ht t' ht'.1) h4.drop.drop
def padw (ws : List ByteArray) : List ByteArray := ws ++ List.replicate (6 - ws.length) ⟨#[]⟩
theorem padw_len (ws : List ByteArray) : 6 <= (padw ws).length := by simp [padw]; omega
theorem padw_at (ws : List ByteArray) (i : Nat) (hi : i < 6) : (padw ws)[i]? = some (wAt ws i) := by
 unfold padw wAt
 by_cases h : i < ws.length
 ·rw [List.getElem?_append_left h,List.getD_eq_getElem?_getD,List.getElem?_eq_getElem h]
  rfl
 ·rw [List.getElem?_append_right (by omega),List.getElem?_replicate,if_pos (by omega),List.getD_eq_getElem?_getD,List.getElem?_eq_none (by omega)]
  rfl
theorem F11_5_loop {s : ByteArray} {rb : Nat} {K0 : Value -> Value -> Value -> World -> Prop} {ws0 : List ByteArray} :
  ∀ (m : Nat) (ws : List ByteArray) (k : Nat) (a : Option Addr) (c : Nat) (w : World),6 - ws.length = m -> m < k -> ws.length <= 10000000 -> padw ws = padw ws0 -> Hs W (slP 9 1 a ws.length c (wsV ws) :: M) w ->
   (∀ a' c' w',Hs W (slP 9 1 a' (padw ws0).length c' (wsV (padw ws0)) :: M) w' -> K0 (.string s) (.pointer (some ⟨rb,0,none⟩)) (.slice a' (padw ws0).length c') w') ->
   F11_5 K0 k (.string s) (.pointer (some ⟨rb,0,none⟩)) (.slice a ws.length c) w := by
 intro m
 induction m with
 | zero =>
  intro ws k a c w hm hk hl hp h hK
  obtain ⟨k,rfl⟩ : ∃ i,k = i + 1 := ⟨k - 1,by omega⟩
  show F11_5B _ _ _ _ _ _
  unfold F11_5B
  simp only [rdS_mk,rdA_mk,rdC_mk]
  rw [decide_eq_false (by omega),br_false]
  have e : padw ws = ws := by unfold padw; rw [hm]; simp
  rw [e] at hp
  rw [hp] at h ⊢
  exact hK a c w h
 | succ m ih =>
  intro ws k a c w hm hk hl hp h hK
  obtain ⟨k,rfl⟩ : ∃ i,k = i + 1 := ⟨k - 1,by omega⟩
  show F11_5B _ _ _ _ _ _
  unfold F11_5B
  simp only [rdS_mk,rdA_mk,rdC_mk]
  rw [decide_eq_true (by omega),br_true]
  refine h.alc fun nb w2 h2 => ?_
  refine h2.append E77 1 rfl (m := 1) (news := [.string ⟨#[]⟩]) rfl (rd_blk (h2.at 0 rfl)) (by simp [Value.oneCell']) (by omega) (by omega) fun a' c' w3 h3 _ => ?_
  have h4 : Hs W (slP 9 1 a' (ws.length + 1) c' (wsV ws ++ [.string ⟨#[]⟩]) :: M) w3 := h3.erase 0
  have e4 : wsV ws ++ [.string ⟨#[]⟩] = wsV (ws ++ [⟨#[]⟩]) := by simp [wsV]
  have e5 : ws.length + 1 = (ws ++ [(⟨#[]⟩ : ByteArray)]).length := by simp
  rw [e4,e5] at h4
  rw [e5]
  refine ih (ws ++ [⟨#[]⟩]) k a' c' w3 (by simp; omega) (by omega) (by simp; omega) ?_ h4 hK
  rw [← hp]
  unfold padw
  have e6 : 6 - ws.length = (6 - (ws ++ [(⟨#[]⟩ : ByteArray)]).length) + 1 := by simp; omega
  rw [e6,List.replicate_succ]
  simp
def nAt (ws : List ByteArray) (i : Nat) : Int := ((valS (wAt ws i) % 4398046511104 : Nat) : Int)
def nsOf (ws : List ByteArray) : List Int := (List.range 6).map (nAt ws)
theorem ns_len (ws : List ByteArray) : (nsOf ws).length = 6 := by simp [nsOf]
theorem F11_3_loop {ws : List ByteArray} {va : Addr} {wa : Option Addr} {wl wc db rb : Nat} {s : ByteArray} {K2 : Value -> Value -> Value -> Value -> Value -> World -> Prop} (hwl : 6 <= wl) (hsm : ∀ i,(wAt ws i).size <= 140737488355328) (hrw : ∀ (xs : List Value) w',Hs W (slP 3 1 (some va) 6 6 xs :: M) w' -> Rd w' wa (wsV (padw ws))) :
  ∀ (m i k : Nat) (w : World),6 - i = m -> i <= 6 -> m < k -> Hs W (slP 3 1 (some va) 6 6 (iV ((nsOf ws).take i) ++ List.replicate (6 - i) (.int .i64 0)) :: M) w ->
   (∀ w',Hs W (slP 3 1 (some va) 6 6 (iV (nsOf ws)) :: M) w' -> K2 (.string s) (.pointer (some ⟨rb,0,none⟩)) (.slice wa wl wc) (.pointer (some ⟨db,0,none⟩)) (.slice (some va) 6 6) w') ->
   F11_3 K2 k (.string s) (.pointer (some ⟨rb,0,none⟩)) (.slice wa wl wc) (.pointer (some ⟨db,0,none⟩)) (.slice (some va) 6 6) (.int .i64 (i : Int)) w := by
 intro m
 induction m with
 | zero =>
  intro i k w hm hi hk h hK
  obtain ⟨k,rfl⟩ : ∃ i,k = i + 1 := ⟨k - 1,by omega⟩
  have : i = 6 := by omega
  subst this
  rw [List.take_of_length_le (by rw [ns_len]; omega)] at h
  show F11_3B _ _ _ _ _ _ _ _ _
  unfold F11_3B
  simp only [rdS_mk,rdA_mk,rdC_mk,rdI_mk]
  rw [decide_eq_false (by decide),br_false]
  exact hK w (by simpa using h)
 | succ m ih =>
  intro i k w hm hi hk h hK
  obtain ⟨k,rfl⟩ : ∃ i,k = i + 1 := ⟨k - 1,by omega⟩
  show F11_3B _ _ _ _ _ _ _ _ _
  unfold F11_3B
  simp only [rdS_mk,rdA_mk,rdC_mk,rdI_mk]
  rw [decide_eq_true (by omega),br_true]
  have hr := hrw _ w h
  have hget := padw_at ws i (by omega)
  obtain ⟨ad,rfl⟩ := hr.some (by rw [wsV_lenN]; have := padw_len ws; omega)
  refine ixS_to (p := i) rfl (by omega) ?_
  rw [Nat.mul_one]
  refine ldS_c (n := wAt ws i) (hr.at (by simp [wsV,hget])) ?_
  refine clr (c37 (hsm i)) ⟨_,rfl,?_⟩
  refine ixS_to (p := i) rfl (by omega) ?_
  rw [Nat.mul_one]
  have e1 : IntKind.wrap .i64 (Int.tmod (valS (wAt ws i) : Int) 4398046511104) = nAt ws i := by
   unfold nAt
   rw [Int.tmod_eq_emod_of_nonneg (by omega),wrap_i64 (by omega) (by omega)]
   omega
  rw [e1]
  have hlen : (iV ((nsOf ws).take i)).length = i := by simp [iV,ns_len]; omega
  refine h.put 0 rfl (j := i) (by rw [List.length_append,hlen,List.length_replicate]; omega) fun w2 h2 => ?_
  have e2 : (iV ((nsOf ws).take i) ++ List.replicate (6 - i) (Value.int .i64 0)).set i (.int .i64 (nAt ws i)) = iV ((nsOf ws).take (i + 1)) ++ List.replicate (6 - (i + 1)) (Value.int .i64 0) := by
   rw [List.set_append_right _ _ (by omega),hlen]
   have e3 : 6 - i = (6 - (i + 1)) + 1 := by omega
   have e4 : (nsOf ws)[i]? = some (nAt ws i) := by unfold nsOf; rw [List.getElem?_map,List.getElem?_range (by omega)]; rfl
   rw [e3,List.replicate_succ,Nat.sub_self,List.set_cons_zero,List.take_add_one,e4]
   simp [iV]
  have h2 : Hs W (slP 3 1 (some va) 6 6 ((iV ((nsOf ws).take i) ++ List.replicate (6 - i) (Value.int .i64 0)).set i (.int .i64 (nAt ws i))) :: M) w2 := h2
  rw [e2] at h2
  have e3 : IntKind.wrap .i64 ((i : Int) + 1) = ((i + 1 : Nat) : Int) := by rw [wrap_i64 (by omega) (by omega)]; omega
  rw [e3]
  exact ih (i + 1) k w2 (by omega) (by omega) (by omega) h2 hK
end
end Go.Proofs.YtilenpnpnbdndaaGreatDoor
