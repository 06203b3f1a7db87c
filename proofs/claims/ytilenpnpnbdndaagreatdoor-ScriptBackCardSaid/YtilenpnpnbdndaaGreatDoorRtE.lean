/- Own text: part of the shallow reading of the code and of the contracts that are proved over it. -/
import Derived.Test.YtilenpnpnbdndaaGreatDoorRtC
namespace Go.Proofs.YtilenpnpnbdndaaGreatDoor
open Go Go.Sh
set_option maxRecDepth 100000
attribute [local instance] Esc.none
theorem sp_word {ws : List ByteArray} {x : ByteArray} (h0 : ws ≠ []) : bs (bl (bs (bl (joined ws) ++ bl ⟨#[32]⟩)) ++ bl x) = joined (ws ++ [x]) := by
 rw [joined_snoc _ h0,bl_bs]
 show bs (bl (joined ws) ++ [32] ++ bl x) = _
 simp
theorem sp_size {ws : List ByteArray} : (bs (bl (joined ws) ++ bl ⟨#[32]⟩)).size = (joined ws).size + 1 := by
 rw [← bl_len,bl_bs,List.length_append,bl_len]; rfl
theorem dec_size {n : Int} (h : numOk n) : (dec n).size <= 20 := by
 obtain ⟨h0,h1⟩ := h
 unfold dec
 rw [← bl_len,bl_bs,Lib.decDigits_length]
 exact Lib.nDigits_le20 _ (by omega)
theorem itoa_dec {n : Int} (h : 0 <= n) : bs (Lib.itoa n) = dec n := by unfold Lib.itoa; rw [if_neg (by omega)]; rfl
section
variable {W w : World} {M : List HP}
theorem F15_loop {ia na : Addr} {ints : List Int} {names : List ByteArray} {K0 : Value -> World -> Prop} {Kr : Value -> Value -> World -> Prop} (hT : TB W) (hl : ints.length = 24) (hns : ∀ n ∈ names,n.size <= 100)
  (hrI : ∀ w',Hs W M w' -> Rd w' (some ia) (iV ints)) (hrN : ∀ w',Hs W M w' -> Rd w' (some na) (wsV names)) :
  ∀ (x2 x1 : List Int) (n2 n1 : List ByteArray) (k : Nat) (ws : List ByteArray) (w : World),ints = x1 ++ x2 -> names = n1 ++ n2 -> x1.length = n1.length -> x2.length = n2.length -> x2.length < k -> ws ≠ [] -> (joined ws).size + 200 * x2.length <= 100000000 -> Hs W M w ->
   (∀ w',(∀ n ∈ x2,numOk n) -> Hs W M w' -> K0 (.string (joined (ws ++ pairs n2 x2))) w') -> (∀ w',¬ (∀ n ∈ x2,numOk n) -> Hs W M w' -> Kr (.string ⟨#[]⟩) (.int .i64 1) w') ->
   F15_2 K0 Kr k (.string (joined ws)) (.slice (some ia) 24 24) (.slice (some na) 24 24) (.int .i64 (x1.length : Int)) w := by
 intro x2
 induction x2 with
 | nil =>
  intro x1 n2 n1 k ws w hx hn h1 h2 hk h0 hsz h hK hR
  obtain ⟨k,rfl⟩ : ∃ i,k = i + 1 := ⟨k - 1,by omega⟩
  rw [List.append_nil] at hx
  subst hx
  have : n2 = [] := List.length_eq_zero_iff.1 h2.symm
  subst this
  show F15_2B _ _ _ _ _ _ _ _
  unfold F15_2B
  simp only [rdS_mk,rdC_mk,rdI_mk]
  rw [hl,decide_eq_false (by decide),br_false]
  have := hK w (by simp) h
  simpa [pairs] using this
 | cons x x2 ih =>
  intro x1 n2 n1 k ws w hx hn h1 h2 hk h0 hsz h hK hR
  obtain ⟨k,rfl⟩ : ∃ i,k = i + 1 := ⟨k - 1,by omega⟩
  obtain ⟨nm,n2,rfl⟩ : ∃ a b,n2 = a :: b := by cases n2 with | nil => simp at h2 | cons a b => exact ⟨a,b,rfl⟩
  have hln : x2.length = n2.length := by simpa using h2
  have hlen : x1.length + (x2.length + 1) = 24 := by rw [← hl,hx]; simp
  simp only [List.length_cons] at hsz
  have hnm := hns nm (by rw [hn]; simp)
  show F15_2B _ _ _ _ _ _ _ _
  unfold F15_2B
  simp only [rdS_mk,rdC_mk,rdI_mk]
  rw [decide_eq_true (by omega),br_true,br_true]
  unfold F15_1
  simp only [rdS_mk,rdC_mk,rdI_mk]
  refine ixS_to (p := x1.length) rfl (by omega) ?_
  rw [Nat.mul_one]
  refine ldI_c (n := x) ((hrI w h).at (by rw [hx]; simp [iV])) ?_
  refine clr c30 ⟨_,rfl,?_⟩
  by_cases hok : numOk x
  ·have e1 : decide (0 <= x /\ x <= 1099511627776) = true := decide_eq_true hok
   rw [e1,Bool.not_true,br_false]
   refine h.drw fun w2 h2 => ⟨w2,Go.Sh.Pres.refl _,?_⟩
   refine cat_of (by show _ + 1 <= _; omega) ?_
   refine ixS_to (p := x1.length) rfl (by omega) ?_
   rw [Nat.mul_one]
   refine ldS_c (n := nm) ((hrN w2 h2).at (by rw [hn,h1]; simp [wsV])) ?_
   refine cat_of (by rw [sp_size]; omega) ?_
   rw [sp_word h0]
   have hs1 := joined_snoc_size nm h0
   refine cat_of (by show _ + 1 <= _; omega) ?_
   refine ixS_to (p := x1.length) rfl (by omega) ?_
   rw [Nat.mul_one]
   refine ldI_c (n := x) ((hrI w2 h2).at (by rw [hx]; simp [iV])) ?_
   have hok2 := hok
   obtain ⟨hx0,hx1⟩ := hok2
   refine cl (c44 (Hs.tb h2 hT) (by omega) (by omega)) ?_
   rintro _ w3 ⟨rfl,hs⟩
   refine ⟨_,rfl,Go.Sh.Pres.of_Same hs,?_⟩
   rw [itoa_dec hx0]
   have hds := dec_size hok
   refine cat_of (by rw [sp_size]; omega) ?_
   rw [sp_word (by simp)]
   intro _
   have e3 : IntKind.wrap .i64 ((x1.length : Int) + 1) = (((x1 ++ [x]).length : Nat) : Int) := by rw [wrap_i64 (by omega) (by omega)]; simp
   rw [e3]
   refine ih (x1 ++ [x]) n2 (n1 ++ [nm]) k (ws ++ [nm] ++ [dec x]) w3 (by rw [hx]; simp) (by rw [hn]; simp) (by simp [h1]) hln (by simp at hk; omega) (by simp) ?_ (h2.same hs) (fun w' hall h' => ?_) (fun w' hall h' => ?_)
   ·rw [joined_snoc_size _ (by simp),hs1]; omega
   ·have := hK w' (by simpa using ⟨hok,hall⟩) h'
    simpa [pairs] using this
   ·exact hR w' (fun hh => hall fun n hn => hh n (by simp [hn])) h'
  ·have e1 : decide (0 <= x /\ x <= 1099511627776) = false := decide_eq_false hok
   rw [e1,Bool.not_false,br_true]
   intro _
   exact hR w (fun hh => hok (hh x (by simp))) h
theorem key_rd {b : Nat} {cs : Array Value} {T : TypeId} (hk : KeyOk cs) {L : List HP} {w : World} {i : Nat} (h : Hs W L w) (hi : L[i]? = some (pt b (.cells cs T (0,0)))) : Rd w (some ⟨b,0,none⟩) (u8v (keyAt cs)) := fun j u hj => by
 refine ⟨_,rfl,?_⟩
 rw [add_mk,cell_at (h.at i hi),Nat.zero_add,← Array.getElem?_toList]
 have hj16 : j < 16 := by
  have := (List.getElem?_eq_some_iff.1 hj).1
  rwa [u8v_len,keyAt_len] at this
 rw [← hk,List.getElem?_take_of_lt hj16] at hj
 exact hj
theorem F15_3_go {R : R49} {b : Nat} {Kr : Value -> Value -> World -> Prop} (hT : TB W) (hG : GoodC R.c) (h : Hs W (pt b (.cells R.c 50 (0,0)) :: M) w) (hsz : (joined (headOf R)).size <= 1000)
  (hK : ∀ w',okAll confItems ⟨R.c,[]⟩ -> Hs W (pt b (.cells R.c 50 (0,0)) :: M) w' -> Kr (.string (lineOf confItems ⟨R.c,[]⟩)) (.int .i64 0) w')
  (hR : ∀ w',¬ okAll confItems ⟨R.c,[]⟩ -> Hs W (pt b (.cells R.c 50 (0,0)) :: M) w' -> Kr (.string ⟨#[]⟩) (.int .i64 1) w') :
  F15_3 Kr (.pointer (some ⟨b,0,none⟩)) (.string (joined (headOf R))) w := by
 unfold F15_3
 simp only [rdA_mk,rdS_mk]
 refine ldR49_of (s := R) (h.atL 0 rfl) ?_
 refine cl (c42 h hG) ?_
 rintro _ w2 ⟨ib,rfl,h2⟩
 refine ⟨_,_,_,rfl,?_⟩
 refine cl (c43 h2) ?_
 rintro _ w3 ⟨nb,rfl,h3⟩
 refine ⟨_,_,_,rfl,25,?_⟩
 refine F15_loop (W := W) (M := pt nb (.cells (nmV confNames) 9 (0,0)) :: pt ib (.cells (iV (intsOf R)).toArray 3 (0,0)) :: pt b (.cells R.c 50 (0,0)) :: M) hT (by rfl) (by decide) (fun w' h' => rd_blk (h'.at 1 rfl)) (fun w' h' => rd_blk (cs := wsV confNames) (h'.at 0 rfl)) (intsOf R) [] confNames [] 25 (headOf R) w3 rfl rfl rfl rfl (by show 24 < 25; omega) (by simp [headOf]) (by have : (intsOf R).length = 24 := rfl; omega) h3 (fun w' hall h' => ?_) (fun w' hall h' => ?_)
 ·intro _
  simp only [rdS_mk]
  have := hK w' ((conf_ok hG).2 hall) h'.drop.drop
  unfold lineOf at this
  rw [conf_words] at this
  exact this
 ·intro _
  simp only [rdS_mk,rdI_mk]
  exact hR w' (fun ho => hall ((conf_ok hG).1 ho)) h'.drop.drop
theorem head_size {R : R49} (h16 : 0 <= R.f16 /\ R.f16 <= 18446744073709551615) : (dec R.f16).size <= 20 /\ (bs (hexW (keyAt R.c))).size <= 33 := by
 constructor
 ·unfold dec
  rw [← bl_len,bl_bs,Lib.decDigits_length]
  exact Lib.nDigits_le20 _ (by omega)
 ·rw [← bl_len,bl_bs]
  have := hexW_len (keyAt R.c)
  rw [keyAt_len] at this
  omega
theorem head_join (R : R49) : joined (headOf R) = bs (bl (bs (bl (bs (bl ⟨#[99,111,110,102,32,115,101,101,100,32]⟩ ++ bl (dec R.f16))) ++ bl ⟨#[32,107,101,121,32]⟩)) ++ bl (bs (hexW (keyAt R.c)))) := by
 rw [bl_bs,bl_bs]
 unfold joined headOf
 congr 1
 simp only [List.map_cons,List.map_nil]
 rw [join_cons2,join_cons2,join_cons2,join_cons2,Lib.join_one]
 show [99,111,110,102] ++ 32 :: ([115,101,101,100] ++ 32 :: (_ ++ 32 :: ([107,101,121] ++ 32 :: _))) = ([99,111,110,102,32,115,101,101,100,32] ++ _) ++ [32,107,101,121,32] ++ _
 simp
theorem c15 {R : R49} (hT : TB W) (h : Hs W M w) (hG : GoodC R.c) : Calls Tryz.prog 15 #[R.v] w (rt fun v w' => Hs W M w' /\
  ((okAll confItems ⟨R.c,[]⟩ /\ v = .tuple #[.string (lineOf confItems ⟨R.c,[]⟩),.int .i64 0]) \/ (¬ okAll confItems ⟨R.c,[]⟩ /\ v = .tuple #[.string ⟨#[]⟩,.int .i64 1]))) := by
 have hko : KeyOk R.c := hG.2.2.2.2.2.2
 have h16 : 0 <= R.f16 /\ R.f16 <= 18446744073709551615 := hG.1
 obtain ⟨u,hu⟩ : ∃ u : Nat,R.f16 = u := ⟨R.f16.toNat,by omega⟩
 have hdu : bs (Lib.decDigits u) = dec R.f16 := by rw [hu]; rfl
 obtain ⟨hs1,hs2⟩ := head_size h16
 have hszj : (joined (headOf R)).size <= 1000 := by
  rw [head_join,← bl_len,bl_bs,bl_bs,bl_bs,List.length_append,List.length_append,List.length_append,bl_len,bl_len,bl_len,bl_len]
  show 10 + _ + 5 + _ <= 1000
  omega
 refine F15_ok ?_
 unfold F15
 refine exR49_of R ⟨rfl,?_⟩
 refine h.alc fun b w2 h2 => h2.drw fun w4 h4 => h4.ldI 0 rfl rfl ?_
 simp only [add_mk,Nat.zero_add]
 have hfin : ∀ w',Hs W (pt b (.cells R.c 50 (0,0)) :: M) w' -> F15_3 (fun y2_16 y3_16 w18 => ∀ _g : Tm,rdS y2_16 fun s20 => rdI .i64 y3_16 fun n21 => Hs W M w18 /\
  ((okAll confItems ⟨R.c,[]⟩ /\ Value.tuple #[.string s20,.int .i64 n21] = .tuple #[.string (lineOf confItems ⟨R.c,[]⟩),.int .i64 0]) \/ (¬ okAll confItems ⟨R.c,[]⟩ /\ Value.tuple #[.string s20,.int .i64 n21] = .tuple #[.string ⟨#[]⟩,.int .i64 1]))) (.pointer (some ⟨b,0,none⟩)) (.string (joined (headOf R))) w' := fun w' h' => by
  refine F15_3_go hT hG h' hszj (fun w5 ho h5 => ?_) (fun w5 ho h5 => ?_)
  ·intro _
   simp only [rdS_mk,rdI_mk]
   exact ⟨h5.drop,.inl ⟨ho,by first | rfl | trivial⟩⟩
  ·intro _
   simp only [rdS_mk,rdI_mk]
   exact ⟨h5.drop,.inr ⟨ho,by first | rfl | trivial⟩⟩
 have hkr := fun w' h' => key_rd (W := W) hko (i := 0) (w := w') (L := pt b (.cells R.c 50 (0,0)) :: M) h' rfl
 refine ⟨?_,?_⟩
 ·rw [hu]
  refine cl (c40 (Hs.tb h4 hT) (by omega)) ?_
  rintro _ w5 ⟨rfl,hs⟩
  rw [hdu]
  refine ⟨_,rfl,cat_of (by show 10 + _ <= _; omega) ?_⟩
  refine cat_of (by rw [← bl_len (bs _),bl_bs,List.length_append,bl_len,bl_len]; show 10 + _ + 5 <= _; omega) ?_
  refine ⟨_,_,_,_,sl16,Go.Sh.Pres.of_Same hs,?_⟩
  have hc := c41 (c := 16) (l := keyAt R.c) (h4.same hs) (by rw [keyAt_len]; omega) hkr
  rw [keyAt_len] at hc
  refine cl hc ?_
  rintro _ w6 ⟨rfl,h6⟩
  refine ⟨_,rfl,cat_of ?_ ?_⟩
  ·rw [← bl_len (bs _),bl_bs,List.length_append,bl_bs,List.length_append,bl_len,bl_len]; show 10 + _ + 5 + _ <= _; omega
  ·rw [← head_join]
   exact hfin w6 h6
 ·refine ⟨_,_,_,_,sl16,Go.Sh.Pres.refl _,?_⟩
  rw [hu]
  refine cl (c40 (Hs.tb h4 hT) (by omega)) ?_
  rintro _ w5 ⟨rfl,hs⟩
  rw [hdu]
  refine ⟨_,rfl,cat_of (by show 10 + _ <= _; omega) ?_⟩
  refine cat_of (by rw [← bl_len (bs _),bl_bs,List.length_append,bl_len,bl_len]; show 10 + _ + 5 <= _; omega) ?_
  have hc := c41 (c := 16) (l := keyAt R.c) (h4.same hs) (by rw [keyAt_len]; omega) hkr
  rw [keyAt_len] at hc
  refine cl hc ?_
  rintro _ w6 ⟨rfl,h6⟩
  refine ⟨_,rfl,cat_of ?_ ?_⟩
  ·rw [← bl_len (bs _),bl_bs,List.length_append,bl_bs,List.length_append,bl_len,bl_len]; show 10 + _ + 5 + _ <= _; omega
  ·rw [← head_join]
   exact hfin w6 h6
end
end Go.Proofs.YtilenpnpnbdndaaGreatDoor
namespace Go.Proofs.YtilenpnpnbdndaaGreatDoor
open Go Go.Sh
set_option maxRecDepth 100000
attribute [local instance] Esc.none
noncomputable def E96i : TypeInfo := (Tryz.prog.info? 3).getD default
theorem E96 : ElemT Tryz.prog 96 3 1 8 (.int .i64 0) E96i := ⟨by kernel_rfl,by kernel_rfl,by kernel_rfl,by kernel_rfl,by kernel_rfl,rfl,by decide⟩
def wAt (ws : List ByteArray) (i : Nat) : ByteArray := ws.getD i ⟨#[]⟩
def kbyte (l : List UInt8) (j : Nat) : Nat := (l.getD j 0).toNat
def kbI (ws : List ByteArray) (j : Nat) : Int := (kbyte (unhex (bl (wAt ws 4))) j : Int)
def vAt (ws : List ByteArray) (i : Nat) : Int := ((valS (wAt ws (6 + 2 * i)) % 4398046511104 : Nat) : Int)
def vsOf (ws : List ByteArray) : List Int := (List.range 24).map (vAt ws)
def Rk (ws : List ByteArray) : R49 := R49.mk (kbI ws 0) (kbI ws 1) (kbI ws 2) (kbI ws 3) (kbI ws 4) (kbI ws 5) (kbI ws 6) (kbI ws 7) (kbI ws 8) (kbI ws 9) (kbI ws 10) (kbI ws 11) (kbI ws 12) (kbI ws 13) (kbI ws 14) (kbI ws 15) ((valS (wAt ws 2) : Int)) 0 0 0 0 0 0 0 0 0 0 0 0 0 0 0 0 0 0 0 0 0 false false false
def Rl (ws : List ByteArray) : R49 := R49.mk (kbI ws 0) (kbI ws 1) (kbI ws 2) (kbI ws 3) (kbI ws 4) (kbI ws 5) (kbI ws 6) (kbI ws 7) (kbI ws 8) (kbI ws 9) (kbI ws 10) (kbI ws 11) (kbI ws 12) (kbI ws 13) (kbI ws 14) (kbI ws 15) ((valS (wAt ws 2) : Int)) (vAt ws 0) (IntKind.wrap .u32 (vAt ws 1)) (IntKind.wrap .u16 (vAt ws 2)) (IntKind.wrap .u16 (vAt ws 3)) (vAt ws 4) (vAt ws 5) (IntKind.wrap .u16 (vAt ws 6)) (IntKind.wrap .u16 (vAt ws 7)) (vAt ws 8) (vAt ws 9) (vAt ws 10) (vAt ws 11) (vAt ws 12) (vAt ws 13) (vAt ws 14) (vAt ws 15) (vAt ws 16) (vAt ws 17) (vAt ws 18) (vAt ws 19) (vAt ws 20) ((vAt ws 21 == 1)) ((vAt ws 22 == 1)) ((vAt ws 23 == 1))
section
variable {W w : World} {M : List HP}
theorem pt_of_sl {e : TypeId} {n : Nat} {a : Option Addr} {xs : List Value} {L : List HP} (hn : 0 < n) (h : Hs W (slP e 1 a n n xs :: L) w) : ∃ g,a = some ⟨g,0,none⟩ /\ Hs W (pt g (.cells xs.toArray e (0,0)) :: L) w := by
 obtain ⟨x,⟨hl,hx⟩,g,lo⟩ := h.look (i := 0) rfl
 rcases hx with ⟨rfl,rfl,_⟩ | ⟨b,cur,rfl,_⟩
 ·omega
 ·refine ⟨b,rfl,h.weak 0 rfl fun y hy => ?_⟩
  obtain ⟨hl,hy⟩ := hy
  rcases hy with ⟨e,_⟩ | ⟨b',cur,e,h1,h2,h3,h4,h5⟩
  ·cases e
  ·cases e
   have : cur = xs.toArray := by
    apply Array.toList_inj.1
    have h4 : cur.toList.length = n * 1 := h4
    rw [List.take_of_length_le (by omega)] at h5
    rw [h5]
   rw [this] at h1
   exact h1
theorem sz49 (R : R49) (o : Nat) (h : o < 41) : o < R.c.size := h
def Rkc (kl : List UInt8) (n16 : Int) : R49 := R49.mk (kbyte kl 0 : Int) (kbyte kl 1 : Int) (kbyte kl 2 : Int) (kbyte kl 3 : Int) (kbyte kl 4 : Int) (kbyte kl 5 : Int) (kbyte kl 6 : Int) (kbyte kl 7 : Int) (kbyte kl 8 : Int) (kbyte kl 9 : Int) (kbyte kl 10 : Int) (kbyte kl 11 : Int) (kbyte kl 12 : Int) (kbyte kl 13 : Int) (kbyte kl 14 : Int) (kbyte kl 15 : Int) n16 0 0 0 0 0 0 0 0 0 0 0 0 0 0 0 0 0 0 0 0 0 false false false
theorem Rk_eq (ws : List ByteArray) : Rk ws = Rkc (unhex (bl (wAt ws 4))) (valS (wAt ws 2) : Int) := rfl
theorem Rkc_at (kl : List UInt8) (n16 : Int) (o : Nat) (h : o < 16) : (Rkc kl n16).c[o]? = some (.int .u8 (kbyte kl o : Int)) := by
 match o,h with
 | 0,_ => rfl
 | 1,_ => rfl
 | 2,_ => rfl
 | 3,_ => rfl
 | 4,_ => rfl
 | 5,_ => rfl
 | 6,_ => rfl
 | 7,_ => rfl
 | 8,_ => rfl
 | 9,_ => rfl
 | 10,_ => rfl
 | 11,_ => rfl
 | 12,_ => rfl
 | 13,_ => rfl
 | 14,_ => rfl
 | 15,_ => rfl
 | o + 16,h => exact absurd h (by omega)
theorem R49_tail {R R' : R49} (h : R.c.toList.drop 16 = R'.c.toList.drop 16) (o : Nat) (ho : 16 <= o) : R.c[o]? = R'.c[o]? := by
 have e : ∀ R : R49,R.c[o]? = (R.c.toList.drop 16)[o - 16]? := fun R => by
  rw [List.getElem?_drop,Array.getElem?_toList]
  congr 1
  omega
 rw [e,e,h]
def R49.z16 (n : Int) : R49 := { R49.zz with f16 := n }
structure KS (kl : List UInt8) (n16 : Int) (cs : Array Value) (j : Nat) : Prop where
 size : cs.size = 41
 lo : ∀ o,o < j -> cs[o]? = some (.int .u8 (kbyte kl o : Int))
 hi : ∀ o,j <= o -> cs[o]? = (R49.z16 n16).c[o]?
theorem zz_at (n16 : Int) (o : Nat) (h : o < 16) : (R49.z16 n16).c[o]? = some (.int .u8 0) := by
 match o,h with
 | 0,_ => rfl
 | 1,_ => rfl
 | 2,_ => rfl
 | 3,_ => rfl
 | 4,_ => rfl
 | 5,_ => rfl
 | 6,_ => rfl
 | 7,_ => rfl
 | 8,_ => rfl
 | 9,_ => rfl
 | 10,_ => rfl
 | 11,_ => rfl
 | 12,_ => rfl
 | 13,_ => rfl
 | 14,_ => rfl
 | 15,_ => rfl
 | o + 16,h => exact absurd h (by omega)
theorem KS.fin {kl : List UInt8} {n16 : Int} {cs : Array Value} {j : Nat} (h : KS kl n16 cs j) (hj : j <= 16) (he : 16 <= j \/ kl.length <= j) : cs = (Rkc kl n16).c := by
 apply Array.ext_getElem?
 intro o
 by_cases ho : o < 16
 ·rw [Rkc_at kl n16 o ho]
  by_cases hoj : o < j
  ·exact h.lo o hoj
  ·rw [h.hi o (by omega),zz_at n16 o ho]
   have : kbyte kl o = 0 := by
    unfold kbyte
    rw [List.getD_eq_getElem?_getD,List.getElem?_eq_none (by omega)]
    rfl
   rw [this]
   rfl
 ·rw [h.hi o (by omega)]
  exact R49_tail (R := R49.z16 n16) (R' := Rkc kl n16) rfl o (by omega)
theorem F17_3_loop {kl : List UInt8} {ka wa : Option Addr} {kc wl wc cb rb : Nat} {n16 : Int} {s : ByteArray} {K0 : Value -> Value -> Value -> Value -> World -> Prop} :
  ∀ (m j k : Nat) (cs : Array Value) (w : World),16 - j = m -> j <= 16 -> m < k -> KS kl n16 cs j -> Hs W (slP 5 1 ka kl.length kc (u8v kl) :: pt cb (.cells cs 50 (0,0)) :: M) w ->
   (∀ w',Hs W (slP 5 1 ka kl.length kc (u8v kl) :: pt cb (.cells (Rkc kl n16).c 50 (0,0)) :: M) w' -> K0 (.string s) (.pointer (some ⟨rb,0,none⟩)) (.slice wa wl wc) (.pointer (some ⟨cb,0,none⟩)) w') ->
   F17_3 K0 k (.string s) (.pointer (some ⟨rb,0,none⟩)) (.slice wa wl wc) (.pointer (some ⟨cb,0,none⟩)) (.slice ka kl.length kc) (.int .i64 (j : Int)) w := by
 intro m
 induction m with
 | zero =>
  intro j k cs w hm hj hk hs h hK
  obtain ⟨k,rfl⟩ : ∃ i,k = i + 1 := ⟨k - 1,by omega⟩
  have e := hs.fin hj (.inl (by omega))
  subst e
  show F17_3B _ _ _ _ _ _ _ _ _
  unfold F17_3B
  simp only [rdS_mk,rdA_mk,rdC_mk,rdI_mk]
  rw [br_dec]
  refine ⟨fun _ => ?_,fun _ => hK w h⟩
  rw [decide_eq_false (by omega),br_false]
  exact hK w h
 | succ m ih =>
  intro j k cs w hm hj hk hs h hK
  obtain ⟨k,rfl⟩ : ∃ i,k = i + 1 := ⟨k - 1,by omega⟩
  show F17_3B _ _ _ _ _ _ _ _ _
  unfold F17_3B
  simp only [rdS_mk,rdA_mk,rdC_mk,rdI_mk]
  rw [br_dec]
  refine ⟨fun hlt => ?_,fun hge => ?_⟩
  ·have hlt : j < kl.length := by omega
   rw [decide_eq_true (by omega),br_true]
   unfold F17_2
   simp only [rdS_mk,rdA_mk,rdC_mk,rdI_mk]
   have hr := h.rd 0 rfl
   obtain ⟨ad,rfl⟩ := hr.some (by rw [u8v_len]; omega)
   refine ixS_to (p := j) rfl hlt ?_
   rw [Nat.mul_one]
   refine ldI_c (n := (kbyte kl j : Int)) (hr.at (by unfold kbyte; rw [List.getD_eq_getElem?_getD]; simp [u8v,hlt])) ?_
   refine ⟨⟨by omega,by omega⟩,?_⟩
   have e1 : ((Addr.mk cb 0 none).add 0 |>.add 0).add ((j : Int).toNat * 1) = Addr.mk cb j none := by simp
   rw [e1]
   refine h.stc 1 rfl (by rw [hs.size]; omega) fun w2 h2 => ?_
   have e3 : IntKind.wrap .i64 ((j : Int) + 1) = ((j + 1 : Nat) : Int) := by rw [wrap_i64 (by omega) (by omega)]; omega
   intro _
   rw [e3]
   refine ih (j + 1) k _ w2 (by omega) (by omega) (by omega) ⟨by simp [hs.size],fun o ho => ?_,fun o ho => ?_⟩ h2 hK
   ·by_cases e : o = j
    ·subst e
     rw [Array.getElem?_setIfInBounds_self,if_pos (by rw [hs.size]; omega)]
    ·rw [Array.getElem?_setIfInBounds_ne (fun x => e x.symm)]
     exact hs.lo o (by omega)
   ·rw [Array.getElem?_setIfInBounds_ne (by omega)]
    exact hs.hi o (by omega)
  ·have e := hs.fin hj (.inr (by omega))
   subst e
   exact hK w h
theorem vs_len (ws : List ByteArray) : (vsOf ws).length = 24 := by simp [vsOf]
theorem F17_1_loop {ws : List ByteArray} {va : Addr} {wa : Option Addr} {wc cb rb : Nat} {s : ByteArray} {K2 : Value -> Value -> Value -> Value -> World -> Prop} (hw : ws.length = 53) (hsm : ∀ x ∈ ws,x.size <= 140737488355328) (hrw : ∀ (xs : List Value) w',Hs W (slP 3 1 (some va) 24 24 xs :: M) w' -> Rd w' wa (wsV ws)) :
  ∀ (m i k : Nat) (w : World),24 - i = m -> i <= 24 -> m < k -> Hs W (slP 3 1 (some va) 24 24 (iV ((vsOf ws).take i) ++ List.replicate (24 - i) (.int .i64 0)) :: M) w ->
   (∀ w',Hs W (slP 3 1 (some va) 24 24 (iV (vsOf ws)) :: M) w' -> K2 (.string s) (.pointer (some ⟨rb,0,none⟩)) (.pointer (some ⟨cb,0,none⟩)) (.slice (some va) 24 24) w') ->
   F17_1 K2 k (.string s) (.pointer (some ⟨rb,0,none⟩)) (.slice wa 53 wc) (.pointer (some ⟨cb,0,none⟩)) (.slice (some va) 24 24) (.int .i64 (i : Int)) w := by
 intro m
 induction m with
 | zero =>
  intro i k w hm hi hk h hK
  obtain ⟨k,rfl⟩ : ∃ i,k = i + 1 := ⟨k - 1,by omega⟩
  have : i = 24 := by omega
  subst this
  rw [List.take_of_length_le (by rw [vs_len]; omega)] at h
  show F17_1B _ _ _ _ _ _ _ _ _
  unfold F17_1B
  simp only [rdS_mk,rdA_mk,rdC_mk,rdI_mk]
  rw [decide_eq_false (by decide),br_false]
  exact hK w (by simpa using h)
 | succ m ih =>
  intro i k w hm hi hk h hK
  obtain ⟨k,rfl⟩ : ∃ i,k = i + 1 := ⟨k - 1,by omega⟩
  show F17_1B _ _ _ _ _ _ _ _ _
  unfold F17_1B
  simp only [rdS_mk,rdA_mk,rdC_mk,rdI_mk]
  rw [decide_eq_true (by omega),br_true]
  have e0 : IntKind.wrap .i64 (6 + IntKind.wrap .i64 (2 * (i : Int))) = ((6 + 2 * i : Nat) : Int) := by
   have : IntKind.wrap .i64 (2 * (i : Int)) = 2 * (i : Int) := wrap_i64 (by omega) (by omega)
   rw [this,wrap_i64 (by omega) (by omega)]; omega
  rw [e0]
  have hr := hrw _ w h
  obtain ⟨ad,rfl⟩ := hr.some (by simp [wsV]; omega)
  refine ixS_to (p := 6 + 2 * i) rfl (by omega) ?_
  rw [Nat.mul_one]
  have hi6 : 6 + 2 * i < ws.length := by omega
  have hget : ws[6 + 2 * i]? = some (wAt ws (6 + 2 * i)) := by
   unfold wAt
   rw [List.getD_eq_getElem?_getD,List.getElem?_eq_getElem hi6]
   rfl
  refine ldS_c (n := wAt ws (6 + 2 * i)) (hr.at (by simp [wsV,hget])) ?_
  refine clr (c37 (hsm _ (List.mem_of_getElem? hget))) ⟨_,rfl,?_⟩
  refine ixS_to (p := i) rfl (by omega) ?_
  rw [Nat.mul_one]
  have e1 : IntKind.wrap .i64 (Int.tmod (valS (wAt ws (6 + 2 * i)) : Int) 4398046511104) = vAt ws i := by
   unfold vAt
   rw [Int.tmod_eq_emod_of_nonneg (by omega),wrap_i64 (by omega) (by omega)]
   omega
  rw [e1]
  have hlen : (iV ((vsOf ws).take i)).length = i := by simp [iV,vs_len]; omega
  refine h.put 0 rfl (j := i) (by rw [List.length_append,hlen,List.length_replicate]; omega) fun w2 h2 => ?_
  have e2 : (iV ((vsOf ws).take i) ++ List.replicate (24 - i) (Value.int .i64 0)).set i (.int .i64 (vAt ws i)) = iV ((vsOf ws).take (i + 1)) ++ List.replicate (24 - (i + 1)) (Value.int .i64 0) := by
   rw [List.set_append_right _ _ (by omega),hlen]
   have e3 : 24 - i = (24 - (i + 1)) + 1 := by omega
   have e4 : (vsOf ws)[i]? = some (vAt ws i) := by unfold vsOf; rw [List.getElem?_map,List.getElem?_range (by omega)]; rfl
   rw [e3,List.replicate_succ,Nat.sub_self,List.set_cons_zero,List.take_add_one,e4]
   simp [iV]
  have h2 : Hs W (slP 3 1 (some va) 24 24 ((iV ((vsOf ws).take i) ++ List.replicate (24 - i) (Value.int .i64 0)).set i (.int .i64 (vAt ws i))) :: M) w2 := h2
  rw [e2] at h2
  have e3 : IntKind.wrap .i64 ((i : Int) + 1) = ((i + 1 : Nat) : Int) := by rw [wrap_i64 (by omega) (by omega)]; omega
  rw [e3]
  exact ih (i + 1) k w2 (by omega) (by omega) (by omega) h2 hK
end
end Go.Proofs.YtilenpnpnbdndaaGreatDoor
