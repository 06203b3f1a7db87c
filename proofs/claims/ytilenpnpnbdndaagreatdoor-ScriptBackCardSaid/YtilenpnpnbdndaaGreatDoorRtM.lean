/- Own text: part of the shallow reading of the code and of the contracts that are proved over it. -/
import Derived.Test.YtilenpnpnbdndaaGreatDoorRtK
namespace Go.Proofs.YtilenpnpnbdndaaGreatDoor
open Go Go.Sh
set_option maxRecDepth 100000
attribute [local instance] Esc.none
def F11_K (K : Value -> World -> Prop) (y0_22 y2_22 y4_22 y5_22 y6_22 : Value) (w24 : World) : Prop :=
 ∀ _g25 : Tm,rdS y0_22 fun s26 => rdA y2_22 fun a27 => rdC y4_22 fun l28a l28n l28c => rdA y5_22 fun a29 => rdC y6_22 fun l30a l30n l30c => ixS 1 l30a l30n 1 fun a31 => ldI .i64 a31 w24 fun n32 => stc (a29.add 1) (.int .i64 n32) w24 fun w33 => ldI .i64 (a29.add 0) w33 fun n34 => br (n34 == 2) (drw w33 fun w35 => ∃ w36 : World,Pres w36 w35 /\ (ixS 1 l30a l30n 2 fun a37 => ldI .i64 a37 w36 fun n38 => ixS 1 l30a l30n 3 fun a39 => ldI .i64 a39 w36 fun n40 => ixS 1 l28a l28n 4 fun a41 => ldS a41 w36 fun s42 => ixS 1 l28a l28n 5 fun a43 => ldS a43 w35 fun s44 => Calls Tryz.prog 38 #[(.string s44)] w35 (en fun e46 w45 => ∃ l47a l47n l47c,e46 = .returned (.slice l47a l47n l47c) /\ (Pres w36 w45 /\ (stc (a29.add 7) (.int .u16 (IntKind.wrap .u16 (n38))) w45 fun w48 => Pres w36 w48 /\ (stc (a29.add 8) (.int .u32 (IntKind.wrap .u32 (n40))) w48 fun w49 => Pres w36 w49 /\ (stc (a29.add 9) (.bool (ByteArray.toList s42 == ByteArray.toList ⟨#[117]⟩)) w49 fun w50 => stc (a29.add 10) (.slice l47a l47n l47c) w50 fun w51 => F11_4 (fun y2_51 y3_51 w53 => ∀ _g54 : Tm,rdA y2_51 fun a55 => rdI .i64 y3_51 fun n56 => ldR26 a55 w53 fun s57 => K (.tuple #[s57.v,(.int .i64 n56)]) w53) (.string s26) (.pointer (some a27)) (.pointer (some a29)) w51))))))) (br (n34 == 5) (ixS 1 l28a l28n 2 fun a58 => ldS a58 w33 fun s59 => Calls Tryz.prog 38 #[(.string s59)] w33 (en fun e61 w60 => ∃ l62a l62n l62c,e61 = .returned (.slice l62a l62n l62c) /\ (∃ s63,∃ w64,Sem.run Tryz.prog (convert 25 9 (.slice l62a l62n l62c)) w60 = .ok (.string s63) w64 /\ (stc (a29.add 11) (.string s63) w64 fun w65 => F11_4 (fun y2_65 y3_65 w67 => ∀ _g68 : Tm,rdA y2_65 fun a69 => rdI .i64 y3_65 fun n70 => ldR26 a69 w67 fun s71 => K (.tuple #[s71.v,(.int .i64 n70)]) w67) (.string s26) (.pointer (some a27)) (.pointer (some a29)) w65)))) (br (n34 == 7) (drw w33 fun w72 => ∃ w73 : World,Pres w73 w72 /\ (ixS 1 l30a l30n 1 fun a74 => ldI .i64 a74 w73 fun n75 => stc (a29.add 1) (.int .i64 0) w72 fun w76 => Pres w73 w76 /\ (stc (a29.add 6) (.int .i64 n75) w76 fun w77 => F11_4 (fun y2_77 y3_77 w79 => ∀ _g80 : Tm,rdA y2_77 fun a81 => rdI .i64 y3_77 fun n82 => ldR26 a81 w79 fun s83 => K (.tuple #[s83.v,(.int .i64 n82)]) w79) (.string s26) (.pointer (some a27)) (.pointer (some a29)) w77))) (br (n34 == 8) (F11_2 (fun y0_83 y2_83 y5_83 w85 => ∀ _g86 : Tm,rdS y0_83 fun s87 => rdA y2_83 fun a88 => rdA y5_83 fun a89 => F11_4 (fun y2_89 y3_89 w91 => ∀ _g92 : Tm,rdA y2_89 fun a93 => rdI .i64 y3_89 fun n94 => ldR26 a93 w91 fun s95 => K (.tuple #[s95.v,(.int .i64 n94)]) w91) (.string s87) (.pointer (some a88)) (.pointer (some a89)) w85) (.string s26) (.pointer (some a27)) (.slice l28a l28n l28c) (.pointer (some a29)) (.slice l30a l30n l30c) (.int .i64 n34) (.bool true) w33) (br (n34 == 9) (F11_2 (fun y0_95 y2_95 y5_95 w97 => ∀ _g98 : Tm,rdS y0_95 fun s99 => rdA y2_95 fun a100 => rdA y5_95 fun a101 => F11_4 (fun y2_101 y3_101 w103 => ∀ _g104 : Tm,rdA y2_101 fun a105 => rdI .i64 y3_101 fun n106 => ldR26 a105 w103 fun s107 => K (.tuple #[s107.v,(.int .i64 n106)]) w103) (.string s99) (.pointer (some a100)) (.pointer (some a101)) w97) (.string s26) (.pointer (some a27)) (.slice l28a l28n l28c) (.pointer (some a29)) (.slice l30a l30n l30c) (.int .i64 n34) (.bool true) w33) (br (n34 == 10) (F11_2 (fun y0_107 y2_107 y5_107 w109 => ∀ _g110 : Tm,rdS y0_107 fun s111 => rdA y2_107 fun a112 => rdA y5_107 fun a113 => F11_4 (fun y2_113 y3_113 w115 => ∀ _g116 : Tm,rdA y2_113 fun a117 => rdI .i64 y3_113 fun n118 => ldR26 a117 w115 fun s119 => K (.tuple #[s119.v,(.int .i64 n118)]) w115) (.string s111) (.pointer (some a112)) (.pointer (some a113)) w109) (.string s26) (.pointer (some a27)) (.slice l28a l28n l28c) (.pointer (some a29)) (.slice l30a l30n l30c) (.int .i64 n34) (.bool true) w33) (F11_2 (fun y0_119 y2_119 y5_119 w121 => ∀ _g122 : Tm,rdS y0_119 fun s123 => rdA y2_119 fun a124 => rdA y5_119 fun a125 => F11_4 (fun y2_125 y3_125 w127 => ∀ _g128 : Tm,rdA y2_125 fun a129 => rdI .i64 y3_125 fun n130 => ldR26 a129 w127 fun s131 => K (.tuple #[s131.v,(.int .i64 n130)]) w127) (.string s123) (.pointer (some a124)) (.pointer (some a125)) w121) (.string s26) (.pointer (some a27)) (.slice l28a l28n l28c) (.pointer (some a29)) (.slice l30a l30n l30c) (.int .i64 n34) (.bool (n34 == 11)) w33))))))
section
variable {W w : World} {M : List HP}
theorem pt_ne {a b : Nat} {o o' : Obj} {L : List HP} (h : Hs W (pt a o :: pt b o' :: L) w) : a ≠ b := by
 obtain ⟨f,hh,⟨x,y,hx,⟨x2,y2,hx2,hy2,d2,rfl⟩,d,rfl⟩,ag',bb⟩ := h
 intro e
 subst e
 rcases d a with d | d
 ·rw [hx] at d
  simp at d
 ·have := (hun_none.1 d).1
  rw [hx2] at this
  simp at this
set_option maxHeartbeats 8000000 in
theorem F11_main {s : ByteArray} {ws : List ByteArray} {ib db g rb : Nat} {cur : Array Value} {wl wc : Nat} {kk : Int} {K : Value -> World -> Prop} (hT : TB W) (hws : ws = words s) (hkk : kindOf (wAt ws 0) = kk) (hwl : 6 <= wl) (hsm : ∀ i,(wAt ws i).size <= 140737488355328) (hcur : ∀ j,j < 6 -> cur[j]? = some (.string (wAt ws j))) (hne : ib ≠ g)
  (h : Hs W (pt ib (.cells (iV (nsOf ws)).toArray 3 (0,0)) :: pt db (.cells ({ R26.zz with f0 := kk } : R26).c 27 (0,0)) :: pt g (.cells cur 9 (0,0)) :: pt rb (.cells R26.zz.c 27 (0,0)) :: M) w)
  (hK : ∀ w' R dat,IsDeed s R dat -> Hs W (dtP W R.c dat :: M) w' -> K (.tuple #[R.v,.int .i64 0]) w') (hR : ∀ w',(¬ ∃ R dat,IsDeed s R dat) -> Hs W M w' -> K (.tuple #[R26.zz.v,.int .i64 250]) w') :
  F11_K K (.string s) (.pointer (some ⟨rb,0,none⟩)) (.slice (some ⟨g,0,none⟩) wl wc) (.pointer (some ⟨db,0,none⟩)) (.slice (some ⟨ib,0,none⟩) 6 6) w := by
 have hcur' : ∀ j,j < 6 -> cur[0 + j * 1]? = some (.string (wAt ws j)) := fun j hj => by rw [Nat.zero_add,Nat.mul_one]; exact hcur j hj
 have fin : ∀ R dat w,GoodD ⟨R.c,dat⟩ -> (∀ t R' d',IsDeedT t s R' d' -> Deq R' d' R dat) -> Hs W (pt db (.cells R.c 27 (0,0)) :: dtP W R.c dat :: pt rb (.cells R26.zz.c 27 (0,0)) :: M) w ->
   F11_4 (fun y2 y3 w => ∀ _g : Tm,rdA y2 fun a => rdI .i64 y3 fun n => ldR26 a w fun s => K (.tuple #[s.v,.int .i64 n]) w) (.string s) (.pointer (some ⟨rb,0,none⟩)) (.pointer (some ⟨db,0,none⟩)) w := fun R dat w hG hlo h => by
  refine F11_4_go hT hG hlo h (fun w' hd h' => ?_) (fun w' hd h' => ?_)
  ·intro _
   simp only [rdA_mk,rdI_mk]
   exact ldR26_of (s := R) (h'.atL 0 rfl) (hK w' R dat hd h'.drop)
  ·intro _
   simp only [rdA_mk,rdI_mk]
   exact ldR26_of (s := R26.zz) (h'.atL 0 rfl) (hR w' hd h'.drop)
 unfold F11_K
 simp only [rdS_mk,rdA_mk,rdC_mk,add_mk,Nat.zero_add]
 intro _
 refine ixS_to (p := 1) rfl (by decide) ?_
 refine h.ldI 0 rfl (n := nAt ws 1) rfl ?_
 refine h.stc 1 rfl (sz26 _ 1 (by decide)) fun w2 h => ?_
 have h : Hs W (pt ib (.cells (iV (nsOf ws)).toArray 3 (0,0)) :: pt db (.cells (R26.mk kk (nAt ws 1) 0 0 0 0 0 0 0 false none 0 0 ⟨#[]⟩ : R26).c 27 (0,0)) :: pt g (.cells cur 9 (0,0)) :: pt rb (.cells R26.zz.c 27 (0,0)) :: M) w2 := h
 refine h.ldI 1 rfl (n := kk) rfl ?_
 refine br_and (fun e => ?_) (fun ne2 => ?_)
 ·have e : kk = 2 := eq_of_beq e
  refine h.drw fun w1 h => ⟨lone2 w1 ib _ g _,Pres_lone2 hne (h.at 0 rfl) (h.at 2 rfl),?_⟩
  refine ixS_to (p := 2) rfl (by decide) ?_
  refine ldI_at (n := nAt ws 2) (lone2_at1 _ _ _ _ _ hne) rfl ?_
  refine ixS_to (p := 3) rfl (by decide) ?_
  refine ldI_at (n := nAt ws 3) (lone2_at1 _ _ _ _ _ hne) rfl ?_
  refine ixS_to (p := 4) rfl (by omega) ?_
  refine ldS_at (n := wAt ws 4) (lone2_at2 _ _ _ _ _) (hcur' 4 (by omega)) ?_
  refine ixS_to (p := 5) rfl (by omega) ?_
  refine h.ldS 2 rfl (n := wAt ws 5) (hcur' 5 (by omega)) ?_
  refine cl (c38 (hsm 5) h) ?_
  rintro _ w2 ⟨a,c,rfl,h⟩
  refine ⟨_,_,_,rfl,Pres_lone2 hne (h.at 1 rfl) (h.at 3 rfl),?_⟩
  refine h.stc 2 rfl (sz26 _ 7 (by decide)) fun w3 h => ⟨Pres_lone2 hne (h.at 1 rfl) (h.at 3 rfl),?_⟩
  refine h.stc 2 rfl (sz26 _ 8 (by decide)) fun w4 h => ⟨Pres_lone2 hne (h.at 1 rfl) (h.at 3 rfl),?_⟩
  rw [str_beq]
  refine h.stc 2 rfl (sz26 _ 9 (by decide)) fun w5 h => h.stc 2 rfl (sz26 _ 10 (by decide)) fun w6 h => ?_
  obtain ⟨n,hn⟩ : ∃ n,n = (unhex (bl (wAt ws 5))).length := ⟨_,rfl⟩
  have h : Hs W (slP 5 1 a (unhex (bl (wAt ws 5))).length c (u8v (unhex (bl (wAt ws 5)))) :: pt ib (.cells (iV (nsOf ws)).toArray 3 (0,0)) :: pt db (.cells (R26.mk 2 (nAt ws 1) 0 0 0 0 0 (IntKind.wrap .u16 (nAt ws 2)) (IntKind.wrap .u32 (nAt ws 3)) (decide (wAt ws 4 = ⟨#[117]⟩)) a (unhex (bl (wAt ws 5))).length c ⟨#[]⟩ : R26).c 27 (0,0)) :: pt g (.cells cur 9 (0,0)) :: pt rb (.cells R26.zz.c 27 (0,0)) :: M) w6 := by rw [← e]; exact h
  have h9 := dt_own (cs := (R26.mk 2 (nAt ws 1) 0 0 0 0 0 (IntKind.wrap .u16 (nAt ws 2)) (IntKind.wrap .u32 (nAt ws 3)) (decide (wAt ws 4 = ⟨#[117]⟩)) a (unhex (bl (wAt ws 5))).length c ⟨#[]⟩ : R26).c) (dat := unhex (bl (wAt ws 5))) rfl h
  exact fin _ _ _ ⟨⟨by show (0 : Int) <= 0; omega,by show (0 : Int) <= 255; omega⟩,⟨by show 0 <= IntKind.wrap .u16 _; rw [IntKind.wrap_u16]; omega,by show IntKind.wrap .u16 _ <= 65535; rw [IntKind.wrap_u16]; omega⟩,⟨by show 0 <= IntKind.wrap .u32 _; rw [IntKind.wrap_u32]; omega,by show IntKind.wrap .u32 _ <= 4294967295; rw [IntKind.wrap_u32]; omega⟩⟩ (fun t R' d' ht => by
   have hk := kind_of ht
   rw [← hws,hkk,e] at hk
   have et : t = (2,⟨#[115,101,110,100]⟩,[69,72,73,74,75]) := vtab_kinds _ ht.mem _ (by simp [vtab]) hk.symm
   subst et
   exact loose2 hws ht) (((h9.erase 1).erase 2).focus (i := 1) rfl)
 refine br_and (fun e => ?_) (fun ne5 => ?_)
 ·have e : kk = 5 := eq_of_beq e
  refine ixS_to (p := 2) rfl (by omega) ?_
  refine h.ldS 2 rfl (n := wAt ws 2) (hcur' 2 (by omega)) ?_
  refine cl (c38 (hsm 2) h) ?_
  rintro _ w2 ⟨a,c,rfl,h⟩
  refine ⟨_,_,_,rfl,_,_,run_bs (h.rd 0 rfl),?_⟩
  refine h.stc 2 rfl (sz26 _ 11 (by decide)) fun w3 h => ?_
  have h : Hs W (pt ib (.cells (iV (nsOf ws)).toArray 3 (0,0)) :: pt db (.cells (R26.mk 5 (nAt ws 1) 0 0 0 0 0 0 0 false none 0 0 (bs (unhex (bl (wAt ws 2)))) : R26).c 27 (0,0)) :: pt g (.cells cur 9 (0,0)) :: pt rb (.cells R26.zz.c 27 (0,0)) :: M) w3 := by rw [← e]; exact h.drop
  have h9 := dt_old (cs := (R26.mk 5 (nAt ws 1) 0 0 0 0 0 0 0 false none 0 0 (bs (unhex (bl (wAt ws 2)))) : R26).c) (dat := []) (a := none) (c := 0) rfl (Rd.nil W none) h
  exact fin (R26.mk 5 (nAt ws 1) 0 0 0 0 0 0 0 false none 0 0 (bs (unhex (bl (wAt ws 2))))) [] _ ⟨⟨by show (0 : Int) <= 0; omega,by show (0 : Int) <= 255; omega⟩,⟨by show (0 : Int) <= 0; omega,by show (0 : Int) <= 65535; omega⟩,⟨by show (0 : Int) <= 0; omega,by show (0 : Int) <= 4294967295; omega⟩⟩ (fun t R' d' ht => by
   have hk := kind_of ht
   rw [← hws,hkk,e] at hk
   have et : t = (5,⟨#[97,98,111,114,116]⟩,[69,76]) := vtab_kinds _ ht.mem _ (by simp [vtab]) hk.symm
   subst et
   exact loose5 hws ht) (((h9.erase 1).erase 2).focus (i := 1) rfl)
 refine br_and (fun e => ?_) (fun ne7 => ?_)
 ·have e : kk = 7 := eq_of_beq e
  refine h.drw fun w1 h => ⟨Go.Sh.lone w1 ib _,Go.Sh.Pres.lone (h.at 0 rfl),?_⟩
  refine ixS_to (p := 1) rfl (by decide) ?_
  refine ldI_at (n := nAt ws 1) (lone_at _ _ _) rfl ?_
  refine h.stc 1 rfl (sz26 _ 1 (by decide)) fun w2 h => ⟨Go.Sh.Pres.lone (h.at 0 rfl),?_⟩
  refine h.stc 1 rfl (sz26 _ 6 (by decide)) fun w3 h => ?_
  have h : Hs W (pt ib (.cells (iV (nsOf ws)).toArray 3 (0,0)) :: pt db (.cells (R26.mk 7 0 0 0 0 0 (nAt ws 1) 0 0 false none 0 0 ⟨#[]⟩ : R26).c 27 (0,0)) :: pt g (.cells cur 9 (0,0)) :: pt rb (.cells R26.zz.c 27 (0,0)) :: M) w3 := by rw [← e]; exact h
  have h9 := dt_old (cs := (R26.mk 7 0 0 0 0 0 (nAt ws 1) 0 0 false none 0 0 ⟨#[]⟩ : R26).c) (dat := []) (a := none) (c := 0) rfl (Rd.nil W none) h
  exact fin (R26.mk 7 0 0 0 0 0 (nAt ws 1) 0 0 false none 0 0 ⟨#[]⟩) [] _ ⟨⟨by show (0 : Int) <= 0; omega,by show (0 : Int) <= 255; omega⟩,⟨by show (0 : Int) <= 0; omega,by show (0 : Int) <= 65535; omega⟩,⟨by show (0 : Int) <= 0; omega,by show (0 : Int) <= 4294967295; omega⟩⟩ (fun t R' d' ht => by
   have hk := kind_of ht
   rw [← hws,hkk,e] at hk
   have et : t = (7,⟨#[99,108,111,99,107]⟩,[77]) := vtab_kinds _ ht.mem _ (by simp [vtab]) hk.symm
   subst et
   exact loose7 hws ht) (((h9.erase 1).erase 2).focus (i := 1) rfl)
 refine br_and (fun e => ?_) (fun ne8 => ?_)
 ·have e : kk = 8 := eq_of_beq e
  unfold F11_2
  simp only [rdS_mk,rdA_mk,rdC_mk,rdI_mk,rdB_mk,add_mk,Nat.zero_add]
  rw [br_true]
  refine h.drw fun w1 h => ⟨Go.Sh.lone w1 ib _,Go.Sh.Pres.lone (h.at 0 rfl),?_⟩
  refine ixS_to (p := 2) rfl (by decide) ?_
  refine h.ldI 0 rfl (n := nAt ws 2) rfl ?_
  refine ixS_to (p := 3) rfl (by decide) ?_
  refine ldI_at (n := nAt ws 3) (lone_at _ _ _) rfl ?_
  refine h.stc 1 rfl (sz26 _ 2 (by decide)) fun w2 h => ⟨Go.Sh.Pres.lone (h.at 0 rfl),?_⟩
  refine h.stc 1 rfl (sz26 _ 3 (by decide)) fun w3 h => ?_
  have h : Hs W (pt ib (.cells (iV (nsOf ws)).toArray 3 (0,0)) :: pt db (.cells (R26.mk kk (nAt ws 1) (nAt ws 2) (nAt ws 3) 0 0 0 0 0 false none 0 0 ⟨#[]⟩ : R26).c 27 (0,0)) :: pt g (.cells cur 9 (0,0)) :: pt rb (.cells R26.zz.c 27 (0,0)) :: M) w3 := h
  have e11 : (kk == 11) = false := by rw [e]; rfl
  refine h.ldI 1 rfl rfl ?_
  show br (kk == 11) _ _
  rw [e11,br_false]
  intro _
  have h : Hs W (pt ib (.cells (iV (nsOf ws)).toArray 3 (0,0)) :: pt db (.cells (R26.mk 8 (nAt ws 1) (nAt ws 2) (nAt ws 3) 0 0 0 0 0 false none 0 0 ⟨#[]⟩ : R26).c 27 (0,0)) :: pt g (.cells cur 9 (0,0)) :: pt rb (.cells R26.zz.c 27 (0,0)) :: M) w3 := by rw [← e]; exact h
  have h9 := dt_old (cs := (R26.mk 8 (nAt ws 1) (nAt ws 2) (nAt ws 3) 0 0 0 0 0 false none 0 0 ⟨#[]⟩ : R26).c) (dat := []) (a := none) (c := 0) rfl (Rd.nil W none) h
  exact fin (R26.mk 8 (nAt ws 1) (nAt ws 2) (nAt ws 3) 0 0 0 0 0 false none 0 0 ⟨#[]⟩) [] _ ⟨⟨by show (0 : Int) <= 0; omega,by show (0 : Int) <= 255; omega⟩,⟨by show (0 : Int) <= 0; omega,by show (0 : Int) <= 65535; omega⟩,⟨by show (0 : Int) <= 0; omega,by show (0 : Int) <= 4294967295; omega⟩⟩ (fun t R' d' ht => by
   have hk := kind_of ht
   rw [← hws,hkk,e] at hk
   have et : t = (8,⟨#[100,101,108,105,118,101,114]⟩,[69,70,71]) := vtab_kinds _ ht.mem _ (by simp [vtab]) hk.symm
   subst et
   exact loose8 hws ht) (((h9.erase 1).erase 2).focus (i := 1) rfl)
 refine br_and (fun e => ?_) (fun ne9 => ?_)
 ·have e : kk = 9 := eq_of_beq e
  unfold F11_2
  simp only [rdS_mk,rdA_mk,rdC_mk,rdI_mk,rdB_mk,add_mk,Nat.zero_add]
  rw [br_true]
  refine h.drw fun w1 h => ⟨Go.Sh.lone w1 ib _,Go.Sh.Pres.lone (h.at 0 rfl),?_⟩
  refine ixS_to (p := 2) rfl (by decide) ?_
  refine h.ldI 0 rfl (n := nAt ws 2) rfl ?_
  refine ixS_to (p := 3) rfl (by decide) ?_
  refine ldI_at (n := nAt ws 3) (lone_at _ _ _) rfl ?_
  refine h.stc 1 rfl (sz26 _ 2 (by decide)) fun w2 h => ⟨Go.Sh.Pres.lone (h.at 0 rfl),?_⟩
  refine h.stc 1 rfl (sz26 _ 3 (by decide)) fun w3 h => ?_
  have h : Hs W (pt ib (.cells (iV (nsOf ws)).toArray 3 (0,0)) :: pt db (.cells (R26.mk kk (nAt ws 1) (nAt ws 2) (nAt ws 3) 0 0 0 0 0 false none 0 0 ⟨#[]⟩ : R26).c 27 (0,0)) :: pt g (.cells cur 9 (0,0)) :: pt rb (.cells R26.zz.c 27 (0,0)) :: M) w3 := h
  have e11 : (kk == 11) = false := by rw [e]; rfl
  refine h.ldI 1 rfl rfl ?_
  show br (kk == 11) _ _
  rw [e11,br_false]
  intro _
  have h : Hs W (pt ib (.cells (iV (nsOf ws)).toArray 3 (0,0)) :: pt db (.cells (R26.mk 9 (nAt ws 1) (nAt ws 2) (nAt ws 3) 0 0 0 0 0 false none 0 0 ⟨#[]⟩ : R26).c 27 (0,0)) :: pt g (.cells cur 9 (0,0)) :: pt rb (.cells R26.zz.c 27 (0,0)) :: M) w3 := by rw [← e]; exact h
  have h9 := dt_old (cs := (R26.mk 9 (nAt ws 1) (nAt ws 2) (nAt ws 3) 0 0 0 0 0 false none 0 0 ⟨#[]⟩ : R26).c) (dat := []) (a := none) (c := 0) rfl (Rd.nil W none) h
  exact fin (R26.mk 9 (nAt ws 1) (nAt ws 2) (nAt ws 3) 0 0 0 0 0 false none 0 0 ⟨#[]⟩) [] _ ⟨⟨by show (0 : Int) <= 0; omega,by show (0 : Int) <= 255; omega⟩,⟨by show (0 : Int) <= 0; omega,by show (0 : Int) <= 65535; omega⟩,⟨by show (0 : Int) <= 0; omega,by show (0 : Int) <= 4294967295; omega⟩⟩ (fun t R' d' ht => by
   have hk := kind_of ht
   rw [← hws,hkk,e] at hk
   have et : t = (9,⟨#[100,114,111,112]⟩,[69,70,71]) := vtab_kinds _ ht.mem _ (by simp [vtab]) hk.symm
   subst et
   exact loose9 hws ht) (((h9.erase 1).erase 2).focus (i := 1) rfl)
 refine br_and (fun e => ?_) (fun ne10 => ?_)
 ·have e : kk = 10 := eq_of_beq e
  unfold F11_2
  simp only [rdS_mk,rdA_mk,rdC_mk,rdI_mk,rdB_mk,add_mk,Nat.zero_add]
  rw [br_true]
  refine h.drw fun w1 h => ⟨Go.Sh.lone w1 ib _,Go.Sh.Pres.lone (h.at 0 rfl),?_⟩
  refine ixS_to (p := 2) rfl (by decide) ?_
  refine h.ldI 0 rfl (n := nAt ws 2) rfl ?_
  refine ixS_to (p := 3) rfl (by decide) ?_
  refine ldI_at (n := nAt ws 3) (lone_at _ _ _) rfl ?_
  refine h.stc 1 rfl (sz26 _ 2 (by decide)) fun w2 h => ⟨Go.Sh.Pres.lone (h.at 0 rfl),?_⟩
  refine h.stc 1 rfl (sz26 _ 3 (by decide)) fun w3 h => ?_
  have h : Hs W (pt ib (.cells (iV (nsOf ws)).toArray 3 (0,0)) :: pt db (.cells (R26.mk kk (nAt ws 1) (nAt ws 2) (nAt ws 3) 0 0 0 0 0 false none 0 0 ⟨#[]⟩ : R26).c 27 (0,0)) :: pt g (.cells cur 9 (0,0)) :: pt rb (.cells R26.zz.c 27 (0,0)) :: M) w3 := h
  have e11 : (kk == 11) = false := by rw [e]; rfl
  refine h.ldI 1 rfl rfl ?_
  show br (kk == 11) _ _
  rw [e11,br_false]
  intro _
  have h : Hs W (pt ib (.cells (iV (nsOf ws)).toArray 3 (0,0)) :: pt db (.cells (R26.mk 10 (nAt ws 1) (nAt ws 2) (nAt ws 3) 0 0 0 0 0 false none 0 0 ⟨#[]⟩ : R26).c 27 (0,0)) :: pt g (.cells cur 9 (0,0)) :: pt rb (.cells R26.zz.c 27 (0,0)) :: M) w3 := by rw [← e]; exact h
  have h9 := dt_old (cs := (R26.mk 10 (nAt ws 1) (nAt ws 2) (nAt ws 3) 0 0 0 0 0 false none 0 0 ⟨#[]⟩ : R26).c) (dat := []) (a := none) (c := 0) rfl (Rd.nil W none) h
  exact fin (R26.mk 10 (nAt ws 1) (nAt ws 2) (nAt ws 3) 0 0 0 0 0 false none 0 0 ⟨#[]⟩) [] _ ⟨⟨by show (0 : Int) <= 0; omega,by show (0 : Int) <= 255; omega⟩,⟨by show (0 : Int) <= 0; omega,by show (0 : Int) <= 65535; omega⟩,⟨by show (0 : Int) <= 0; omega,by show (0 : Int) <= 4294967295; omega⟩⟩ (fun t R' d' ht => by
   have hk := kind_of ht
   rw [← hws,hkk,e] at hk
   have et : t = (10,⟨#[116,119,105,99,101]⟩,[69,70,71]) := vtab_kinds _ ht.mem _ (by simp [vtab]) hk.symm
   subst et
   exact loose10 hws ht) (((h9.erase 1).erase 2).focus (i := 1) rfl)
 unfold F11_2
 simp only [rdS_mk,rdA_mk,rdC_mk,rdI_mk,rdB_mk,add_mk,Nat.zero_add]
 refine br_and (fun e => ?_) (fun ne11 => ?_)
 ·have e : kk = 11 := eq_of_beq e
  refine h.drw fun w1 h => ⟨Go.Sh.lone w1 ib _,Go.Sh.Pres.lone (h.at 0 rfl),?_⟩
  refine ixS_to (p := 2) rfl (by decide) ?_
  refine h.ldI 0 rfl (n := nAt ws 2) rfl ?_
  refine ixS_to (p := 3) rfl (by decide) ?_
  refine ldI_at (n := nAt ws 3) (lone_at _ _ _) rfl ?_
  refine h.stc 1 rfl (sz26 _ 2 (by decide)) fun w2 h => ⟨Go.Sh.Pres.lone (h.at 0 rfl),?_⟩
  refine h.stc 1 rfl (sz26 _ 3 (by decide)) fun w3 h => ?_
  have h : Hs W (pt ib (.cells (iV (nsOf ws)).toArray 3 (0,0)) :: pt db (.cells (R26.mk kk (nAt ws 1) (nAt ws 2) (nAt ws 3) 0 0 0 0 0 false none 0 0 ⟨#[]⟩ : R26).c 27 (0,0)) :: pt g (.cells cur 9 (0,0)) :: pt rb (.cells R26.zz.c 27 (0,0)) :: M) w3 := h
  have e11 : (kk == 11) = true := by rw [e]; rfl
  refine h.ldI 1 rfl rfl ?_
  show br (kk == 11) _ _
  rw [e11,br_true]
  refine h.drw fun w1 h => ⟨Go.Sh.lone w1 ib _,Go.Sh.Pres.lone (h.at 0 rfl),?_⟩
  refine ixS_to (p := 4) rfl (by decide) ?_
  refine h.ldI 0 rfl (n := nAt ws 4) rfl ?_
  refine ixS_to (p := 5) rfl (by decide) ?_
  refine ldI_at (n := nAt ws 5) (lone_at _ _ _) rfl ?_
  refine h.stc 1 rfl (sz26 _ 4 (by decide)) fun w2 h => ⟨Go.Sh.Pres.lone (h.at 0 rfl),?_⟩
  refine h.stc 1 rfl (sz26 _ 5 (by decide)) fun w3 h => ?_
  intro _
  have h : Hs W (pt ib (.cells (iV (nsOf ws)).toArray 3 (0,0)) :: pt db (.cells (R26.mk 11 (nAt ws 1) (nAt ws 2) (nAt ws 3) (nAt ws 4) (IntKind.wrap .u8 (nAt ws 5)) 0 0 0 false none 0 0 ⟨#[]⟩ : R26).c 27 (0,0)) :: pt g (.cells cur 9 (0,0)) :: pt rb (.cells R26.zz.c 27 (0,0)) :: M) w3 := by rw [← e]; exact h
  have h9 := dt_old (cs := (R26.mk 11 (nAt ws 1) (nAt ws 2) (nAt ws 3) (nAt ws 4) (IntKind.wrap .u8 (nAt ws 5)) 0 0 0 false none 0 0 ⟨#[]⟩ : R26).c) (dat := []) (a := none) (c := 0) rfl (Rd.nil W none) h
  exact fin (R26.mk 11 (nAt ws 1) (nAt ws 2) (nAt ws 3) (nAt ws 4) (IntKind.wrap .u8 (nAt ws 5)) 0 0 0 false none 0 0 ⟨#[]⟩) [] _ ⟨⟨by show 0 <= IntKind.wrap .u8 _; rw [IntKind.wrap_u8]; omega,by show IntKind.wrap .u8 _ <= 255; rw [IntKind.wrap_u8]; omega⟩,⟨by show (0 : Int) <= 0; omega,by show (0 : Int) <= 65535; omega⟩,⟨by show (0 : Int) <= 0; omega,by show (0 : Int) <= 4294967295; omega⟩⟩ (fun t R' d' ht => by
   have hk := kind_of ht
   rw [← hws,hkk,e] at hk
   have et : t = (11,⟨#[115,112,111,105,108]⟩,[69,70,71,79,80]) := vtab_kinds _ ht.mem _ (by simp [vtab]) hk.symm
   subst et
   exact loose11 hws ht) (((h9.erase 1).erase 2).focus (i := 1) rfl)
 refine br_and (fun e => ?_) (fun ne12 => ?_)
 ·have e : kk = 12 := eq_of_beq e
  refine h.drw fun w1 h => ⟨Go.Sh.lone w1 ib _,Go.Sh.Pres.lone (h.at 0 rfl),?_⟩
  refine ixS_to (p := 2) rfl (by decide) ?_
  refine ldI_at (n := nAt ws 2) (lone_at _ _ _) rfl ?_
  refine ixS_to (p := 3) rfl (by omega) ?_
  refine h.ldS 2 rfl (n := wAt ws 3) (hcur' 3 (by omega)) ?_
  refine cl (c38 (hsm 3) h) ?_
  rintro _ w2 ⟨a,c,rfl,h⟩
  refine ⟨_,_,_,rfl,Go.Sh.Pres.lone (h.at 1 rfl),?_⟩
  refine h.stc 2 rfl (sz26 _ 2 (by decide)) fun w3 h => h.stc 2 rfl (sz26 _ 10 (by decide)) fun w6 h => ?_
  intro _
  have h : Hs W (slP 5 1 a (unhex (bl (wAt ws 3))).length c (u8v (unhex (bl (wAt ws 3)))) :: pt ib (.cells (iV (nsOf ws)).toArray 3 (0,0)) :: pt db (.cells (R26.mk 12 (nAt ws 1) (nAt ws 2) 0 0 0 0 0 0 false a (unhex (bl (wAt ws 3))).length c ⟨#[]⟩ : R26).c 27 (0,0)) :: pt g (.cells cur 9 (0,0)) :: pt rb (.cells R26.zz.c 27 (0,0)) :: M) w6 := by rw [← e]; exact h
  have h9 := dt_own (cs := (R26.mk 12 (nAt ws 1) (nAt ws 2) 0 0 0 0 0 0 false a (unhex (bl (wAt ws 3))).length c ⟨#[]⟩ : R26).c) (dat := unhex (bl (wAt ws 3))) rfl h
  exact fin _ _ _ ⟨⟨by show (0 : Int) <= 0; omega,by show (0 : Int) <= 255; omega⟩,⟨by show (0 : Int) <= 0; omega,by show (0 : Int) <= 65535; omega⟩,⟨by show (0 : Int) <= 0; omega,by show (0 : Int) <= 4294967295; omega⟩⟩ (fun t R' d' ht => by
   have hk := kind_of ht
   rw [← hws,hkk,e] at hk
   have et : t = (12,⟨#[102,111,114,103,101]⟩,[69,70,75]) := vtab_kinds _ ht.mem _ (by simp [vtab]) hk.symm
   subst et
   exact loose12 hws ht) (((h9.erase 1).erase 2).focus (i := 1) rfl)
 refine br_and (fun e => ?_) (fun ne13 => ?_)
 ·have e : kk = 13 := eq_of_beq e
  unfold F11_1
  simp only [rdS_mk,rdA_mk,rdC_mk,rdB_mk,add_mk,Nat.zero_add]
  rw [br_true]
  refine h.drw fun w1 h => ⟨Go.Sh.lone w1 ib _,Go.Sh.Pres.lone (h.at 0 rfl),?_⟩
  refine ixS_to (p := 1) rfl (by decide) ?_
  refine ldI_at (n := nAt ws 1) (lone_at _ _ _) rfl ?_
  refine h.stc 1 rfl (sz26 _ 1 (by decide)) fun w2 h => ⟨Go.Sh.Pres.lone (h.at 0 rfl),?_⟩
  refine h.stc 1 rfl (sz26 _ 2 (by decide)) fun w3 h => ?_
  intro _
  intro _
  have h : Hs W (pt ib (.cells (iV (nsOf ws)).toArray 3 (0,0)) :: pt db (.cells (R26.mk 13 0 (nAt ws 1) 0 0 0 0 0 0 false none 0 0 ⟨#[]⟩ : R26).c 27 (0,0)) :: pt g (.cells cur 9 (0,0)) :: pt rb (.cells R26.zz.c 27 (0,0)) :: M) w3 := by rw [← e]; exact h
  have h9 := dt_old (cs := (R26.mk 13 0 (nAt ws 1) 0 0 0 0 0 0 false none 0 0 ⟨#[]⟩ : R26).c) (dat := []) (a := none) (c := 0) rfl (Rd.nil W none) h
  exact fin (R26.mk 13 0 (nAt ws 1) 0 0 0 0 0 0 false none 0 0 ⟨#[]⟩) [] _ ⟨⟨by show (0 : Int) <= 0; omega,by show (0 : Int) <= 255; omega⟩,⟨by show (0 : Int) <= 0; omega,by show (0 : Int) <= 65535; omega⟩,⟨by show (0 : Int) <= 0; omega,by show (0 : Int) <= 4294967295; omega⟩⟩ (fun t R' d' ht => by
   have hk := kind_of ht
   rw [← hws,hkk,e] at hk
   have et : t = (13,⟨#[100,111,119,110]⟩,[70]) := vtab_kinds _ ht.mem _ (by simp [vtab]) hk.symm
   subst et
   exact loose13 hws ht) (((h9.erase 1).erase 2).focus (i := 1) rfl)
 cases ek14 : (kk == 14) with
 | true =>
  have e : kk = 14 := eq_of_beq ek14
  unfold F11_1
  simp only [rdS_mk,rdA_mk,rdC_mk,rdB_mk,add_mk,Nat.zero_add]
  rw [br_true]
  refine h.drw fun w1 h => ⟨Go.Sh.lone w1 ib _,Go.Sh.Pres.lone (h.at 0 rfl),?_⟩
  refine ixS_to (p := 1) rfl (by decide) ?_
  refine ldI_at (n := nAt ws 1) (lone_at _ _ _) rfl ?_
  refine h.stc 1 rfl (sz26 _ 1 (by decide)) fun w2 h => ⟨Go.Sh.Pres.lone (h.at 0 rfl),?_⟩
  refine h.stc 1 rfl (sz26 _ 2 (by decide)) fun w3 h => ?_
  intro _
  intro _
  have h : Hs W (pt ib (.cells (iV (nsOf ws)).toArray 3 (0,0)) :: pt db (.cells (R26.mk 14 0 (nAt ws 1) 0 0 0 0 0 0 false none 0 0 ⟨#[]⟩ : R26).c 27 (0,0)) :: pt g (.cells cur 9 (0,0)) :: pt rb (.cells R26.zz.c 27 (0,0)) :: M) w3 := by rw [← e]; exact h
  have h9 := dt_old (cs := (R26.mk 14 0 (nAt ws 1) 0 0 0 0 0 0 false none 0 0 ⟨#[]⟩ : R26).c) (dat := []) (a := none) (c := 0) rfl (Rd.nil W none) h
  exact fin (R26.mk 14 0 (nAt ws 1) 0 0 0 0 0 0 false none 0 0 ⟨#[]⟩) [] _ ⟨⟨by show (0 : Int) <= 0; omega,by show (0 : Int) <= 255; omega⟩,⟨by show (0 : Int) <= 0; omega,by show (0 : Int) <= 65535; omega⟩,⟨by show (0 : Int) <= 0; omega,by show (0 : Int) <= 4294967295; omega⟩⟩ (fun t R' d' ht => by
   have hk := kind_of ht
   rw [← hws,hkk,e] at hk
   have et : t = (14,⟨#[117,112]⟩,[70]) := vtab_kinds _ ht.mem _ (by simp [vtab]) hk.symm
   subst et
   exact loose14 hws ht) (((h9.erase 1).erase 2).focus (i := 1) rfl)
 | false =>
  unfold F11_1
  simp only [rdS_mk,rdA_mk,rdC_mk,rdB_mk,add_mk,Nat.zero_add]
  rw [br_false]
  intro _
  intro _
  have n2 : ¬ kk = 2 := fun x => by rw [x] at ne2; cases ne2
  have n5 : ¬ kk = 5 := fun x => by rw [x] at ne5; cases ne5
  have n7 : ¬ kk = 7 := fun x => by rw [x] at ne7; cases ne7
  have n8 : ¬ kk = 8 := fun x => by rw [x] at ne8; cases ne8
  have n9 : ¬ kk = 9 := fun x => by rw [x] at ne9; cases ne9
  have n10 : ¬ kk = 10 := fun x => by rw [x] at ne10; cases ne10
  have n11 : ¬ kk = 11 := fun x => by rw [x] at ne11; cases ne11
  have n12 : ¬ kk = 12 := fun x => by rw [x] at ne12; cases ne12
  have n13 : ¬ kk = 13 := fun x => by rw [x] at ne13; cases ne13
  have n14 : ¬ kk = 14 := fun x => by rw [x] at ek14; cases ek14
  have h9 := dt_old (cs := (R26.mk kk (nAt ws 1) 0 0 0 0 0 0 0 false none 0 0 ⟨#[]⟩ : R26).c) (dat := []) (a := none) (c := 0) rfl (Rd.nil W none) h
  refine fin (R26.mk kk (nAt ws 1) 0 0 0 0 0 0 0 false none 0 0 ⟨#[]⟩) [] _ ⟨⟨by show (0 : Int) <= 0; omega,by show (0 : Int) <= 255; omega⟩,⟨by show (0 : Int) <= 0; omega,by show (0 : Int) <= 65535; omega⟩,⟨by show (0 : Int) <= 0; omega,by show (0 : Int) <= 4294967295; omega⟩⟩ ?_ (((h9.erase 1).erase 2).focus (i := 1) rfl)
  intro t R' d' ht
  have hk := kind_of ht
  rw [← hws,hkk] at hk
  have hmem := ht.mem
  simp only [vtab,List.mem_cons,List.not_mem_nil,or_false] at hmem
  rcases hmem with rfl | rfl | rfl | rfl | rfl | rfl | rfl | rfl | rfl | rfl | rfl | rfl | rfl | rfl
  ·have h1 := loose1 hws ht
   have ek : kk = 1 := hk
   rw [ek]
   exact h1
  ·exact absurd hk n2
  ·have h1 := loose3 hws ht
   have ek : kk = 3 := hk
   rw [ek]
   exact h1
  ·have h1 := loose4 hws ht
   have ek : kk = 4 := hk
   rw [ek]
   exact h1
  ·exact absurd hk n5
  ·have h1 := loose6 hws ht
   have ek : kk = 6 := hk
   rw [ek]
   exact h1
  ·exact absurd hk n7
  ·exact absurd hk n8
  ·exact absurd hk n9
  ·exact absurd hk n10
  ·exact absurd hk n11
  ·exact absurd hk n12
  ·exact absurd hk n13
  ·exact absurd hk n14
end
end Go.Proofs.YtilenpnpnbdndaaGreatDoor
namespace Go.Proofs.YtilenpnpnbdndaaGreatDoor
open Go Go.Sh
set_option maxRecDepth 100000
attribute [local instance] Esc.none
theorem made6 : (madeCells (Value.int .i64 0).cells (6 * 1)).toList = List.replicate 6 (.int .i64 0) := by kernel_rfl
section
variable {W w : World} {M : List HP}
theorem wAt_small {s : ByteArray} (h : s.size <= 140737488355328) (i : Nat) : (wAt (words s) i).size <= 140737488355328 := by
 unfold wAt
 rw [List.getD_eq_getElem?_getD]
 cases hx : (words s)[i]? with
 | none => show (0 : Nat) <= _; omega
 | some x =>
  show x.size <= _
  obtain ⟨l,hl,rfl⟩ := List.mem_map.1 (List.mem_of_getElem? hx)
  have := wrds_le _ l hl
  rw [← bl_len,bl_bs]
  rw [bl_len] at this
  omega
theorem c11 {s : ByteArray} (hT : TB W) (h : Hs W M w) (hs : s.size <= 8000000) : Calls Tryz.prog 11 #[.string s] w (rt fun v w' =>
  (∃ R dat,IsDeed s R dat /\ v = .tuple #[R.v,.int .i64 0] /\ Hs W (dtP W R.c dat :: M) w') \/ ((¬ ∃ R dat,IsDeed s R dat) /\ v = .tuple #[R26.zz.v,.int .i64 250] /\ Hs W M w')) := by
 refine F11_ok ?_
 unfold F11
 simp only [rdS_mk]
 refine h.alc fun rb w2 h2 => ?_
 have h2 : Hs W (pt rb (.cells R26.zz.c 27 (0,0)) :: M) w2 := h2
 refine cl (c35 hs h2) ?_
 rintro _ w3 ⟨wa,wc,rfl,h3⟩
 refine ⟨_,_,_,rfl,7,?_⟩
 have hwl : (words s).length <= 10000000 := by
  have := wrds_length (bl s)
  have h2 : (bl s).count 32 <= s.size := by rw [← bl_len]; exact List.count_le_length
  have h3 : (words s).length = (wrds (bl s)).length := by simp [words]
  omega
 refine F11_5_loop (ws0 := words s) _ (words s) 7 wa wc w3 rfl (by omega) hwl rfl h3 fun wa wc w4 h4 => ?_
 intro _
 simp only [rdS_mk,rdA_mk,rdC_mk]
 have hpl := padw_len (words s)
 obtain ⟨g,cur,rfl,h5,hcur⟩ := sl_open (by omega) h4
 have hcur' : ∀ j,j < 6 -> cur[j]? = some (.string (wAt (words s) j)) := fun j hj => hcur j _ (by simp [wsV,padw_at _ j hj])
 refine ixS_to (p := 0) rfl (by omega) ?_
 simp only [Nat.zero_mul,add_mk,Nat.add_zero]
 refine h5.ldS 0 rfl (n := wAt (words s) 0) (hcur' 0 (by omega)) ?_
 refine cl (c36 h5) ?_
 rintro _ w5 ⟨rfl,h6⟩
 refine ⟨_,rfl,?_⟩
 refine h6.alc fun db w6 h7 => h7.stcL 0 rfl (by rfl) fun w7 h8 => ?_
 have h8 : Hs W (pt db (.cells ({ R26.zz with f0 := kindOf (wAt (words s) 0) } : R26).c 27 (0,0)) :: pt g (.cells cur 9 (0,0)) :: pt rb (.cells R26.zz.c 27 (0,0)) :: M) w7 := h8
 refine h8.make E96 (n := 6) (by omega) (by omega) (by omega) fun va w9 h9 _ => ?_
 rw [made6] at h9
 obtain ⟨vad,rfl⟩ := (h9.rd 0 rfl).some (by simp)
 refine ⟨7,?_⟩
 refine F11_3_loop (ws := words s) hpl (wAt_small (by omega)) (fun xs w' h' j u hj => ⟨_,rfl,?_⟩) 6 0 7 w9 rfl (by omega) (by omega) h9 fun w10 h10 => ?_
 ·rw [add_mk,cell_at (h'.at 2 rfl),Nat.zero_add]
  exact hcur j u hj
 ·obtain ⟨ib,eib,h11⟩ := pt_of_sl (by omega) h10
  rw [eib]
  have hne : ib ≠ g := pt_ne (h11.erase 1)
  exact F11_main (K := fun v w' => (∃ R dat,IsDeed s R dat /\ v = .tuple #[R.v,.int .i64 0] /\ Hs W (dtP W R.c dat :: M) w') \/ ((¬ ∃ R dat,IsDeed s R dat) /\ v = .tuple #[R26.zz.v,.int .i64 250] /\ Hs W M w')) hT rfl rfl hpl (wAt_small (by omega)) hcur' hne h11
   (fun w' R dat hd h' => .inl ⟨R,dat,hd,rfl,h'⟩) (fun w' hd h' => .inr ⟨hd,rfl,h'⟩)
end
end Go.Proofs.YtilenpnpnbdndaaGreatDoor
