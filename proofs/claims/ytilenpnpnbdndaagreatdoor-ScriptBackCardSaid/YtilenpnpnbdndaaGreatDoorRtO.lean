/- Own text: part of the shallow reading of the code and of the contracts that are proved over it. -/
import Derived.Test.YtilenpnpnbdndaaGreatDoorSrW4
namespace Go.Proofs.YtilenpnpnbdndaaGreatDoor
open Go Go.Sh
set_option maxRecDepth 100000
attribute [local instance] Esc.none
def LineA (R : R26) (dat : List UInt8) (S : ByteArray) (N : Int) : Prop := (∃ t,LineOk t R dat /\ S = lineOf (itemsOf t) ⟨R.c,dat⟩ /\ N = 0) \/ ((∀ t,¬ LineOk t R dat) /\ S = ⟨#[]⟩ /\ N = 1)
theorem LineA.one {R : R26} {dat : List UInt8} {S S' : ByteArray} {N N' : Int} (h : LineA R dat S N) (h' : LineA R dat S' N') : S = S' /\ N = N' := by
 rcases h with ⟨t,ht,rfl,rfl⟩ | ⟨hn,rfl,rfl⟩
 ·rcases h' with ⟨t',ht',rfl,rfl⟩ | ⟨hn',_⟩
  ·have e := ht.one ht'
   subst e
   exact ⟨rfl,rfl⟩
  ·exact absurd ht (hn' t)
 ·rcases h' with ⟨t',ht',_⟩ | ⟨_,rfl,rfl⟩
  ·exact absurd ht' (hn t')
  ·exact ⟨rfl,rfl⟩
def DeedA (s : ByteArray) (R : R26) (dat : List UInt8) (N : Int) : Prop := (IsDeed s R dat /\ N = 0) \/ ((¬ ∃ R dat,IsDeed s R dat) /\ R = R26.zz /\ dat = [] /\ N = 250)
theorem DeedA.one {s : ByteArray} {R R' : R26} {d d' : List UInt8} {N N' : Int} (h : DeedA s R d N) (h' : DeedA s R' d' N') : sameB R d R' d' = true /\ N = N' := by
 rcases h with ⟨h,rfl⟩ | ⟨hn,rfl,rfl,rfl⟩
 ·rcases h' with ⟨h',rfl⟩ | ⟨hn',_⟩
  ·exact ⟨sameB_iff.2 (h.det h'),rfl⟩
  ·exact absurd ⟨_,_,h⟩ hn'
 ·rcases h' with ⟨h',_⟩ | ⟨_,rfl,rfl,rfl⟩
  ·exact absurd ⟨_,_,h'⟩ hn
  ·exact ⟨rfl,rfl⟩
def SetA (R : R49) (S : ByteArray) (N : Int) : Prop := (okAll confItems ⟨R.c,[]⟩ /\ S = lineOf confItems ⟨R.c,[]⟩ /\ N = 0) \/ (¬ okAll confItems ⟨R.c,[]⟩ /\ S = ⟨#[]⟩ /\ N = 1)
theorem SetA.one {R : R49} {S S' : ByteArray} {N N' : Int} (h : SetA R S N) (h' : SetA R S' N') : S = S' /\ N = N' := by
 rcases h with ⟨h,rfl,rfl⟩ | ⟨hn,rfl,rfl⟩
 ·rcases h' with ⟨_,rfl,rfl⟩ | ⟨hn',_⟩
  ·exact ⟨rfl,rfl⟩
  ·exact absurd h hn'
 ·rcases h' with ⟨h',_⟩ | ⟨_,rfl,rfl⟩
  ·exact absurd h' hn
  ·exact ⟨rfl,rfl⟩
def ConfA (s : ByteArray) (R : R49) (N : Int) : Prop := (IsConf s R /\ N = 0) \/ ((¬ ∃ R,IsConf s R) /\ R = R49.zz /\ N = 250)
theorem IsConf.one {s : ByteArray} {R R' : R49} (h : IsConf s R) (h' : IsConf s R') : R = R' := (conf_loose h).2.1.symm.trans (conf_loose h').2.1
theorem ConfA.one {s : ByteArray} {R R' : R49} {N N' : Int} (h : ConfA s R N) (h' : ConfA s R' N') : R = R' /\ N = N' := by
 rcases h with ⟨h,rfl⟩ | ⟨hn,rfl,rfl⟩
 ·rcases h' with ⟨h',rfl⟩ | ⟨hn',_⟩
  ·exact ⟨h.one h',rfl⟩
  ·exact absurd ⟨_,h⟩ hn'
 ·rcases h' with ⟨h',_⟩ | ⟨_,rfl,rfl⟩
  ·exact absurd ⟨_,h'⟩ hn
  ·exact ⟨rfl,rfl⟩
theorem conf_back {R : R49} (hG : GoodC R.c) (ho : okAll confItems ⟨R.c,[]⟩) : IsConf (lineOf confItems ⟨R.c,[]⟩) R := ⟨hG.2.2.2.2.2.2,ho,words_line (by simp [confItems]) conf_clear⟩
section
variable {W w : World} {M : List HP}
theorem c8q {R : R26} {dat : List UInt8} (hT : TB W) (h : Hs W M w) (hG : GoodD ⟨R.c,dat⟩) (hd : Holds26 W R dat) (hdl : dat.length < 4611686018427387904) : Calls Tryz.prog 8 #[R.v] w (rt fun v w' => ∃ S N,v = .tuple #[.string S,.int .i64 N] /\ LineA R dat S N /\ Hs W M w') :=
 rt_mono (c8 hT h hG hd hdl) fun _ _ ⟨h,hv⟩ => by
  rcases hv with ⟨t,ht,hv⟩ | ⟨ht,hv⟩
  ·exact ⟨_,_,hv,.inl ⟨t,ht,rfl,rfl⟩,h⟩
  ·exact ⟨_,_,hv,.inr ⟨ht,rfl,rfl⟩,h⟩
theorem c9q {R : R26} {dat : List UInt8} (hT : TB W) (h : Hs W M w) (hG : GoodD ⟨R.c,dat⟩) (hd : Holds26 W R dat) : Calls Tryz.prog 9 #[R.v] w (rt fun v w' => ∃ S N,v = .tuple #[.string S,.int .i64 N] /\ LineA R dat S N /\ Hs W M w') :=
 rt_mono (c9 hT h hG hd) fun _ _ ⟨h,hv⟩ => by
  rcases hv with ⟨t,ht,hv⟩ | ⟨ht,hv⟩
  ·exact ⟨_,_,hv,.inl ⟨t,ht,rfl,rfl⟩,h⟩
  ·exact ⟨_,_,hv,.inr ⟨ht,rfl,rfl⟩,h⟩
theorem dt_zz (h : Hs W M w) : Hs W (dtP W R26.zz.c [] :: M) w := dt_old (a := none) (c := 0) rfl (Rd.nil W none) h
theorem c10q {s : ByteArray} (hT : TB W) (h : Hs W M w) (hs : s.size <= 8000000) : Calls Tryz.prog 10 #[.string s] w (rt fun v w' => ∃ R dat N,v = .tuple #[R26.v R,.int .i64 N] /\ DeedA s R dat N /\ Hs W (dtP W R.c dat :: M) w') :=
 rt_mono (c10 hT h hs) fun _ _ hv => by
  rcases hv with ⟨R,dat,hd,hv,h⟩ | ⟨hn,hv,h⟩
  ·exact ⟨R,dat,0,hv,.inl ⟨hd,rfl⟩,h⟩
  ·exact ⟨R26.zz,[],250,hv,.inr ⟨hn,rfl,rfl,rfl⟩,dt_zz h⟩
theorem c11q {s : ByteArray} (hT : TB W) (h : Hs W M w) (hs : s.size <= 8000000) : Calls Tryz.prog 11 #[.string s] w (rt fun v w' => ∃ R dat N,v = .tuple #[R26.v R,.int .i64 N] /\ DeedA s R dat N /\ Hs W (dtP W R.c dat :: M) w') :=
 rt_mono (c11 hT h hs) fun _ _ hv => by
  rcases hv with ⟨R,dat,hd,hv,h⟩ | ⟨hn,hv,h⟩
  ·exact ⟨R,dat,0,hv,.inl ⟨hd,rfl⟩,h⟩
  ·exact ⟨R26.zz,[],250,hv,.inr ⟨hn,rfl,rfl,rfl⟩,dt_zz h⟩
theorem c14q {R : R49} (hT : TB W) (h : Hs W M w) (hG : GoodC R.c) : Calls Tryz.prog 14 #[R.v] w (rt fun v w' => ∃ S N,v = .tuple #[.string S,.int .i64 N] /\ SetA R S N /\ Hs W M w') :=
 rt_mono (c14 hT h hG) fun _ _ ⟨h,hv⟩ => by
  rcases hv with ⟨ho,hv⟩ | ⟨ho,hv⟩
  ·exact ⟨_,_,hv,.inl ⟨ho,rfl,rfl⟩,h⟩
  ·exact ⟨_,_,hv,.inr ⟨ho,rfl,rfl⟩,h⟩
theorem c15q {R : R49} (hT : TB W) (h : Hs W M w) (hG : GoodC R.c) : Calls Tryz.prog 15 #[R.v] w (rt fun v w' => ∃ S N,v = .tuple #[.string S,.int .i64 N] /\ SetA R S N /\ Hs W M w') :=
 rt_mono (c15 hT h hG) fun _ _ ⟨h,hv⟩ => by
  rcases hv with ⟨ho,hv⟩ | ⟨ho,hv⟩
  ·exact ⟨_,_,hv,.inl ⟨ho,rfl,rfl⟩,h⟩
  ·exact ⟨_,_,hv,.inr ⟨ho,rfl,rfl⟩,h⟩
theorem c16q {s : ByteArray} (hT : TB W) (h : Hs W M w) (hs : s.size <= 8000000) : Calls Tryz.prog 16 #[.string s] w (rt fun v w' => ∃ R N,v = .tuple #[R49.v R,.int .i64 N] /\ ConfA s R N /\ Hs W M w') :=
 rt_mono (c16 hT h hs) fun _ _ ⟨h,hv⟩ => by
  rcases hv with ⟨R,hR,hv⟩ | ⟨hn,hv⟩
  ·exact ⟨R,0,hv,.inl ⟨hR,rfl⟩,h⟩
  ·exact ⟨R49.zz,250,hv,.inr ⟨hn,rfl,rfl⟩,h⟩
theorem c17q {s : ByteArray} (hT : TB W) (h : Hs W M w) (hs : s.size <= 8000000) : Calls Tryz.prog 17 #[.string s] w (rt fun v w' => ∃ R N,v = .tuple #[R49.v R,.int .i64 N] /\ ConfA s R N /\ Hs W M w') :=
 rt_mono (c17 hT h hs) fun _ _ ⟨h,hv⟩ => by
  rcases hv with ⟨R,hR,hv⟩ | ⟨hn,hv⟩
  ·exact ⟨R,0,hv,.inl ⟨hR,rfl⟩,h⟩
  ·exact ⟨R49.zz,250,hv,.inr ⟨hn,rfl,rfl⟩,h⟩
theorem line_short {t : Vb} {R : R26} {dat : List UInt8} (h : LineOk t R dat) : (lineOf (itemsOf t) ⟨R.c,dat⟩).size <= 786606 := by
 have hsz := items_size (List.all_eq_true.1 (vtab_items t h.mem).2.2.1) h.ok
 have hlen : (itemsOf t).length <= 6 := by have := (vtab_ok t h.mem).2; simp [itemsOf]; omega
 exact Nat.le_trans hsz (by omega)
theorem conf_short {R : R49} (h : okAll confItems ⟨R.c,[]⟩) : (lineOf confItems ⟨R.c,[]⟩).size <= 6948353 := by
 have hsz := items_size conf_small h
 have hcl : confItems.length = 53 := rfl
 rw [hcl] at hsz
 exact Nat.le_trans hsz (by omega)
theorem F3_1_go {R : R26} {dat : List UInt8} {S : ByteArray} {N : Int} {b : Nat} {Kr : Value -> World -> Prop} (hT : TB W) (hd : Holds26 W R dat) (hA : LineA R dat S N) (h : Hs W (pt b (.cells R.c 27 (0,0)) :: M) w)
  (hK : ∀ w',Same W w' -> Kr (.bool true) w') : F3_1 Kr (.pointer (some ⟨b,0,none⟩)) (.string S) (.int .i64 N) w := by
 unfold F3_1
 simp only [rdA_mk,rdS_mk,rdI_mk]
 rcases hA with ⟨t,ht,rfl,rfl⟩ | ⟨hn,rfl,rfl⟩
 ·have e0 : ((0 : Int) != 0) = false := rfl
  rw [e0,br_false]
  have hsz := line_short ht
  refine cl (c10q hT h (by omega)) ?_
  rintro _ w2 ⟨R2,d2,N2,rfl,hD,h2⟩
  have hD2 : DeedA (lineOf (itemsOf t) ⟨R.c,dat⟩) R dat 0 := .inl ⟨⟨t,ht.deed⟩,rfl⟩
  obtain ⟨hsame,rfl⟩ := hD.one hD2
  refine exR26_of R2 ⟨_,rfl,h2.alc fun b3 w3 h3 => h3.stcL 0 rfl (by rfl) fun w4 h4 => ?_⟩
  have h4 : Hs W (pt b3 (.cells R2.c 27 (0,0)) :: dtP W R2.c d2 :: pt b (.cells R.c 27 (0,0)) :: M) w4 := h4
  have e1 : ((0 : Int) == 0) = true := rfl
  rw [e1,br_true]
  refine ldR26_of (s := R2) (h4.atL 0 rfl) (ldR26_of (s := R) (h4.atL 2 rfl) ?_)
  refine cl (c12S (dt_holds (h4.focus (i := 1) rfl)) (hd.same h4.old)) ?_
  rintro _ w5 ⟨rfl,hs5⟩
  refine ⟨_,rfl,?_⟩
  rw [hsame,br_true]
  have h5 := h4.same hs5
  refine cl (c13 (Hs.tb h5 hT)) ?_
  rintro _ w6 ⟨rfl,hs6⟩
  exact ⟨_,rfl,hK w6 (h5.same hs6).old⟩
 ·have e0 : ((1 : Int) != 0) = true := rfl
  rw [e0,br_true]
  refine cl (c13 (Hs.tb h hT)) ?_
  rintro _ w6 ⟨rfl,hs6⟩
  exact ⟨_,rfl,hK w6 (h.same hs6).old⟩
theorem c3 {R : R26} {dat : List UInt8} {s : ByteArray} (hT : TB w) (hG : GoodD ⟨R.c,dat⟩) (hd : Holds26 w R dat) (hdl : dat.length < 4611686018427387904) (hs : s.size <= 8000000) : Calls Tryz.prog 3 #[R.v,.string s] w (rt fun v w' => v = .bool true /\ Same w w') := by
 refine F3_ok ?_
 unfold F3
 refine exR26_of R ⟨rfl,?_⟩
 simp only [rdS_mk]
 refine (Hs.start w).alc fun b3 w3 h3 => ldR26_of (s := R) (h3.atL 0 rfl) ?_
 refine cl (c8q hT h3 hG hd hdl) ?_
 rintro _ w4 ⟨S1,N1,rfl,hA1,h4⟩
 refine ⟨_,_,rfl,ldR26_of (s := R) (h4.atL 0 rfl) ?_⟩
 refine cl (c9q hT h4 hG hd) ?_
 rintro _ w5 ⟨S2,N2,rfl,hA2,h5⟩
 refine ⟨_,_,rfl,?_⟩
 refine cl (c10q hT h5 hs) ?_
 rintro _ w6 ⟨R1,d1,N3,rfl,hD1,h6⟩
 refine exR26_of R1 ⟨_,rfl,h6.alc fun b19 w7 h7 => h7.stcL 0 rfl (by rfl) fun w8 h8 => ?_⟩
 have h8 : Hs w [pt b19 (.cells R1.c 27 (0,0)),dtP w R1.c d1,pt b3 (.cells R.c 27 (0,0))] w8 := h8
 refine cl (c11q hT h8 hs) ?_
 rintro _ w9 ⟨R2,d2,N4,rfl,hD2,h9⟩
 refine exR26_of R2 ⟨_,rfl,h9.alc fun b26 w10 h10 => h10.stcL 0 rfl (by rfl) fun w11 h11 => ?_⟩
 have h11 : Hs w [pt b26 (.cells R2.c 27 (0,0)),dtP w R2.c d2,pt b19 (.cells R1.c 27 (0,0)),dtP w R1.c d1,pt b3 (.cells R.c 27 (0,0))] w11 := h11
 obtain ⟨rfl,rfl⟩ := hA1.one hA2
 obtain ⟨hsame,rfl⟩ := hD1.one hD2
 have en : ∀ n : Int,(n != n) = false := fun n => by simp
 rw [str_beq,decide_eq_true rfl,Bool.not_true,br_false,en,br_false]
 refine ldR26_of (s := R1) (h11.atL 2 rfl) (ldR26_of (s := R2) (h11.atL 0 rfl) ?_)
 refine cl (c12S (dt_holds (h11.focus (i := 3) rfl)) (dt_holds (h11.focus (i := 1) rfl))) ?_
 rintro _ w12 ⟨rfl,hs12⟩
 refine ⟨_,rfl,?_⟩
 rw [hsame,Bool.not_true,br_false,en,br_false]
 refine F3_1_go hT hd hA1 ((h11.same hs12).focus (i := 4) rfl) fun w' hs' => ?_
 intro _
 simp only [rdB_mk]
 exact ⟨by first | rfl | trivial,hs'⟩
theorem F4_1_go {R : R49} {S : ByteArray} {N : Int} {b : Nat} {Kr : Value -> World -> Prop} (hT : TB W) (hG : GoodC R.c) (hA : SetA R S N) (h : Hs W (pt b (.cells R.c 50 (0,0)) :: M) w)
  (hK : ∀ w',Same W w' -> Kr (.bool true) w') : F4_1 Kr (.pointer (some ⟨b,0,none⟩)) (.string S) (.int .i64 N) w := by
 unfold F4_1
 simp only [rdA_mk,rdS_mk,rdI_mk]
 rcases hA with ⟨ho,rfl,rfl⟩ | ⟨hn,rfl,rfl⟩
 ·have e0 : ((0 : Int) != 0) = false := rfl
  rw [e0,br_false]
  have hsz := conf_short ho
  refine cl (c16q hT h (by omega)) ?_
  rintro _ w2 ⟨R2,N2,rfl,hD,h2⟩
  have hD2 : ConfA (lineOf confItems ⟨R.c,[]⟩) R 0 := .inl ⟨conf_back hG ho,rfl⟩
  obtain ⟨rfl,rfl⟩ := hD.one hD2
  refine exR49_of R2 ⟨_,rfl,h2.alc fun b3 w3 h3 => h3.stcL 0 rfl (by rfl) fun w4 h4 => ?_⟩
  have h4 : Hs W (pt b3 (.cells R2.c 50 (0,0)) :: pt b (.cells R2.c 50 (0,0)) :: M) w4 := h4
  have e1 : ((0 : Int) == 0) = true := rfl
  rw [e1,br_true]
  refine ldR49_of (s := R2) (h4.atL 0 rfl) (ldR49_of (s := R2) (h4.atL 1 rfl) ?_)
  refine ⟨_,_,eql49 R2,?_⟩
  rw [br_true]
  refine cl (c13 (Hs.tb h4 hT)) ?_
  rintro _ w6 ⟨rfl,hs6⟩
  exact ⟨_,rfl,hK w6 (h4.same hs6).old⟩
 ·have e0 : ((1 : Int) != 0) = true := rfl
  rw [e0,br_true]
  refine cl (c13 (Hs.tb h hT)) ?_
  rintro _ w6 ⟨rfl,hs6⟩
  exact ⟨_,rfl,hK w6 (h.same hs6).old⟩
theorem c4 {R : R49} {s : ByteArray} (hT : TB w) (hG : GoodC R.c) (hs : s.size <= 8000000) : Calls Tryz.prog 4 #[R.v,.string s] w (rt fun v w' => v = .bool true /\ Same w w') := by
 refine F4_ok ?_
 unfold F4
 refine exR49_of R ⟨rfl,?_⟩
 simp only [rdS_mk]
 refine (Hs.start w).alc fun b3 w3 h3 => ldR49_of (s := R) (h3.atL 0 rfl) ?_
 refine cl (c14q hT h3 hG) ?_
 rintro _ w4 ⟨S1,N1,rfl,hA1,h4⟩
 refine ⟨_,_,rfl,ldR49_of (s := R) (h4.atL 0 rfl) ?_⟩
 refine cl (c15q hT h4 hG) ?_
 rintro _ w5 ⟨S2,N2,rfl,hA2,h5⟩
 refine ⟨_,_,rfl,?_⟩
 refine cl (c16q hT h5 hs) ?_
 rintro _ w6 ⟨R1,N3,rfl,hD1,h6⟩
 refine exR49_of R1 ⟨_,rfl,h6.alc fun b19 w7 h7 => h7.stcL 0 rfl (by rfl) fun w8 h8 => ?_⟩
 have h8 : Hs w [pt b19 (.cells R1.c 50 (0,0)),pt b3 (.cells R.c 50 (0,0))] w8 := h8
 refine cl (c17q hT h8 hs) ?_
 rintro _ w9 ⟨R2,N4,rfl,hD2,h9⟩
 refine exR49_of R2 ⟨_,rfl,h9.alc fun b26 w10 h10 => h10.stcL 0 rfl (by rfl) fun w11 h11 => ?_⟩
 have h11 : Hs w [pt b26 (.cells R2.c 50 (0,0)),pt b19 (.cells R1.c 50 (0,0)),pt b3 (.cells R.c 50 (0,0))] w11 := h11
 obtain ⟨rfl,rfl⟩ := hA1.one hA2
 obtain ⟨rfl,rfl⟩ := hD1.one hD2
 have en : ∀ n : Int,(n != n) = false := fun n => by simp
 rw [str_beq,decide_eq_true rfl,Bool.not_true,br_false,en,br_false]
 refine ldR49_of (s := R1) (h11.atL 1 rfl) (ldR49_of (s := R1) (h11.atL 0 rfl) ?_)
 refine ⟨_,_,neq49 R1,?_⟩
 rw [br_false,en,br_false]
 refine F4_1_go hT hG hA1 (h11.focus (i := 2) rfl) fun w' hs' => ?_
 intro _
 simp only [rdB_mk]
 exact ⟨by first | rfl | trivial,hs'⟩
end
end Go.Proofs.YtilenpnpnbdndaaGreatDoor
