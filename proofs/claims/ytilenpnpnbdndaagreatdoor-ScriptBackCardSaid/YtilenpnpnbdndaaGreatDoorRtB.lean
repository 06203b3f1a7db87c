/- Own text: part of the shallow reading of the code and of the contracts that are proved over it. -/
import Derived.Test.YtilenpnpnbdndaaGreatDoorStA
import Derived.Test.YtilenpnpnbdndaaGreatDoorSrQ
namespace Go.Proofs.YtilenpnpnbdndaaGreatDoor
open Go Go.Sh
set_option maxRecDepth 100000
attribute [local instance] Esc.none
section
variable {W w : World} {M : List HP}
theorem c30 {n : Int} : Calls Tryz.prog 30 #[.int .i64 n] w (rt (KR (.bool (decide (0 <= n /\ n <= 1099511627776))) w)) := by
 refine F30_ok ?_
 unfold F30
 simp only [rdI_mk]
 rw [br_dec]
 refine ⟨fun h => ?_,fun h => ?_⟩
 ·have : decide (0 <= n /\ n <= 1099511627776) = decide (n <= 1099511627776) := by
   have h0 : 0 <= n := h
   simp [h0]
  rw [this]
  exact KR.mk _ _
 ·have : decide (0 <= n /\ n <= 1099511627776) = false := decide_eq_false fun x => h x.1
  rw [this]
  exact KR.mk _ _
theorem c54 {b : Bool} : Calls Tryz.prog 54 #[.bool b] w (rt (KR (.string (if b then ⟨#[117]⟩ else ⟨#[111]⟩)) w)) := by
 refine F54_ok ?_
 unfold F54
 simp only [rdB_mk]
 cases b with
 | true => rw [br_true]; exact KR.mk _ _
 | false => rw [br_false]; exact KR.mk _ _
def bitN (b : Bool) : Int := if b then 1 else 0
theorem c64 {b : Bool} : Calls Tryz.prog 64 #[.bool b] w (rt (KR (.int .i64 (bitN b)) w)) := by
 refine F64_ok ?_
 unfold F64
 simp only [rdB_mk]
 cases b with
 | true => rw [br_true]; exact KR.mk _ _
 | false => rw [br_false]; exact KR.mk _ _
def wrtF (b : UInt8) : Nat -> Nat -> Nat
 | 0,_ => 0
 | m + 1,i => if hxd i = b then i else wrtF b m (i + 1)
def wrt (b : UInt8) : Nat := wrtF b 16 0
theorem wrt_hxd : ∀ n : Fin 16,wrt (hxd n.val) = n.val := by decide +kernel
theorem wrt_lt' : ∀ b : Fin 256,wrt (UInt8.ofNat b.val) < 16 := by decide +kernel
theorem wrt_lt (b : UInt8) : wrt b < 16 := by
 have := wrt_lt' ⟨b.toNat,b.toNat_lt⟩
 simpa using this
theorem F56_loop {b : UInt8} {K0 : World -> Prop} {Kr : Value -> World -> Prop} (hK : ∀ n : Nat,n = 0 -> wrt b = n -> K0 w) (hR : ∀ n : Nat,n < 16 -> wrt b = n -> Kr (.int .i64 (n : Int)) w) :
  ∀ (m i k : Nat),i + m = 16 -> m < k -> wrtF b m i = wrt b -> F56_1 K0 Kr k (.int .u8 (b.toNat : Int)) (.int .i64 (i : Int)) w := by
 intro m
 induction m with
 | zero =>
  intro i k hi hk he
  obtain ⟨k,rfl⟩ : ∃ i,k = i + 1 := ⟨k - 1,by omega⟩
  show F56_1B _ _ _ _ _ _
  unfold F56_1B
  simp only [rdI_mk]
  rw [decide_eq_false (by omega),br_false]
  exact hK 0 rfl he.symm
 | succ m ih =>
  intro i k hi hk he
  obtain ⟨k,rfl⟩ : ∃ i,k = i + 1 := ⟨k - 1,by omega⟩
  show F56_1B _ _ _ _ _ _
  unfold F56_1B
  simp only [rdI_mk]
  rw [decide_eq_true (by omega),br_true]
  refine ixT_dg (by omega) ?_
  by_cases e : hxd i = b
  ·have e2 : (((hxd i).toNat : Int) == (b.toNat : Int)) = true := by rw [e]; simp
   rw [e2,br_true]
   refine hR i (by omega) ?_
   rw [← he]
   unfold wrtF
   rw [if_pos e]
  ·have e2 : (((hxd i).toNat : Int) == (b.toNat : Int)) = false := beq_eq_false_iff_ne.2 fun x => e (UInt8.toNat.inj (by omega))
   rw [e2,br_false]
   have e3 : IntKind.wrap .i64 ((i : Int) + 1) = ((i + 1 : Nat) : Int) := by rw [wrap_i64 (by omega) (by omega)]; omega
   rw [e3]
   refine ih (i + 1) k (by omega) (by omega) ?_
   rw [← he]
   conv => rhs; unfold wrtF
   rw [if_neg e]
theorem c56 {b : UInt8} : Calls Tryz.prog 56 #[.int .u8 (b.toNat : Int)] w (rt (KR (.int .i64 (wrt b : Int)) w)) := by
 refine F56_ok ?_
 unfold F56
 simp only [rdI_mk]
 refine ⟨17,F56_loop (fun n hn he => ?_) (fun n hn he => ?_) 16 0 17 (by omega) (by omega) rfl⟩
 ·intro _
  rw [he,hn]
  exact KR.mk _ _
 ·intro _
  simp only [rdI_mk]
  rw [he]
  exact KR.mk _ _
def unhex : List UInt8 -> List UInt8
 | p :: q :: t => UInt8.ofNat (wrt p * 16 + wrt q) :: unhex t
 | _ => []
theorem unhex_hexs : ∀ l,unhex (hexs l) = l
 | [] => rfl
 | b :: l => by
  have hb := b.toNat_lt
  have h1 := wrt_hxd ⟨b.toNat / 16,by omega⟩
  have h2 := wrt_hxd ⟨b.toNat % 16,by omega⟩
  simp only at h1 h2
  rw [hexs_cons]
  unfold unhex
  rw [h1,h2,unhex_hexs l]
  have : b.toNat / 16 * 16 + b.toNat % 16 = b.toNat := by omega
  rw [this]
  simp
theorem unhex_hexW (l : List UInt8) : unhex (hexW l) = l := by
 unfold hexW
 split
 ·rename_i e; subst e; rfl
 ·exact unhex_hexs l
theorem F38_loop {s : ByteArray} {K0 : Value -> World -> Prop} (hsz : s.size <= 140737488355328) :
  ∀ (m : Nat) (l1 u2 : List UInt8) (i k : Nat) (oa : Option Addr) (oc : Nat) (w : World),(bl s).drop i = u2 -> u2.length = m -> i <= s.size -> m < k -> l1.length <= i -> Hs W (slP 5 1 oa l1.length oc (u8v l1) :: M) w ->
   (∀ oa' oc' w',Hs W (slP 5 1 oa' (l1 ++ unhex u2).length oc' (u8v (l1 ++ unhex u2)) :: M) w' -> K0 (.slice oa' (l1 ++ unhex u2).length oc') w') ->
   F38_1 K0 k (.string s) (.slice oa l1.length oc) (.int .i64 (i : Int)) w := by
 intro m
 induction m using Nat.strongRecOn with
 | _ m ih =>
  intro l1 u2 i k oa oc w hu hm hi hk hl1 h hK
  obtain ⟨k,rfl⟩ : ∃ i,k = i + 1 := ⟨k - 1,by omega⟩
  have hml : s.size - i = m := by rw [← hm,← hu,List.length_drop,bl_len]
  show F38_1B _ _ _ _ _ _
  unfold F38_1B
  simp only [rdS_mk,rdC_mk,rdI_mk]
  have e1 : IntKind.wrap .i64 ((i : Int) + 1) = ((i + 1 : Nat) : Int) := by rw [wrap_i64 (by omega) (by omega)]; omega
  rw [e1]
  match u2,hu,hm,hK with
  | [],hu,hm,hK =>
   rw [decide_eq_false (by simp at hm; omega),br_false]
   have : l1 ++ unhex [] = l1 := by simp [unhex]
   rw [this] at hK
   exact hK oa oc w h
  | [x],hu,hm,hK =>
   rw [decide_eq_false (by simp at hm; omega),br_false]
   have : l1 ++ unhex [x] = l1 := by simp [unhex]
   rw [this] at hK
   exact hK oa oc w h
  | p :: q :: t,hu,hm,hK =>
   rw [decide_eq_true (by simp at hm; omega),br_true]
   refine h.drw fun w2 h2 => ?_
   have hp : (bl s)[i]? = some p := by
    have := congrArg List.head? hu
    simpa using this
   have hq : (bl s)[i + 1]? = some q := by
    have := congrArg (fun l => l[1]?) hu
    simpa using this
   refine ixT_bl hp (ixT_bl hq ?_)
   refine clr c56 ⟨_,rfl,?_⟩
   refine clr c56 ⟨_,rfl,?_⟩
   have hx := wrt_lt p
   have hy := wrt_lt q
   have him : i + 2 <= s.size := by simp at hm; omega
   have e2 : IntKind.wrap .u8 (IntKind.wrap .i64 (IntKind.wrap .i64 ((wrt p : Int) * 16) + (wrt q : Int))) = ((wrt p * 16 + wrt q : Nat) : Int) := by
    have a1 : IntKind.wrap .i64 ((wrt p : Int) * 16) = (wrt p : Int) * 16 := wrap_i64 (by omega) (by omega)
    rw [a1]
    have a2 : IntKind.wrap .i64 ((wrt p : Int) * 16 + (wrt q : Int)) = (wrt p : Int) * 16 + (wrt q : Int) := wrap_i64 (by omega) (by omega)
    rw [a2,IntKind.wrap_u8]
    omega
   rw [e2]
   refine h2.alc fun nb w3 h3 => ?_
   have e : u8v [UInt8.ofNat (wrt p * 16 + wrt q)] = [.int .u8 ((wrt p * 16 + wrt q : Nat) : Int)] := by simp only [u8v,List.map_cons,List.map_nil]; rw [hex_byte hx hy]
   refine h3.append E25 1 rfl (m := 1) (news := u8v [UInt8.ofNat (wrt p * 16 + wrt q)]) (by simp [u8v]) (rd_blk (T := 5) (z := (0,0)) ?_) (u8v_one _) (by omega) (by omega) fun a' c' w4 h4 _ => ?_
   ·rw [e]
    exact h3.at 0 rfl
   ·have h5 : Hs W (slP 5 1 a' (l1.length + 1) c' (u8v l1 ++ u8v [UInt8.ofNat (wrt p * 16 + wrt q)]) :: M) w4 := h4.erase 0
    rw [← u8v_app] at h5
    have e3 : IntKind.wrap .i64 ((i : Int) + 2) = ((i + 2 : Nat) : Int) := by rw [wrap_i64 (by omega) (by omega)]; omega
    have e4 : l1.length + 1 = (l1 ++ [UInt8.ofNat (wrt p * 16 + wrt q)]).length := by simp
    rw [e3]
    rw [e4] at h5 ⊢
    refine ih t.length (by simp at hm; omega) (l1 ++ [UInt8.ofNat (wrt p * 16 + wrt q)]) t (i + 2) k a' c' w4 ?_ rfl (by simp at hm; omega) (by simp at hm; omega) (by simp; omega) h5 ?_
    ·have := congrArg (List.drop 2) hu
     rw [List.drop_drop] at this
     exact this
    ·intro oa' oc' w' h'
     have e5 : l1 ++ [UInt8.ofNat (wrt p * 16 + wrt q)] ++ unhex t = l1 ++ unhex (p :: q :: t) := by simp [unhex]
     rw [e5] at h' ⊢
     exact hK oa' oc' w' h'
theorem c38 {s : ByteArray} (hsz : s.size <= 140737488355328) (h : Hs W M w) : Calls Tryz.prog 38 #[.string s] w (rt fun v w' => ∃ a c,v = .slice a (unhex (bl s)).length c /\ Hs W (slP 5 1 a (unhex (bl s)).length c (u8v (unhex (bl s))) :: M) w') := by
 refine F38_ok ?_
 unfold F38
 simp only [rdS_mk]
 refine ⟨s.size + 1,F38_loop hsz s.size [] (bl s) 0 (s.size + 1) none 0 w rfl (bl_len s) (by omega) (by omega) (by simp) (h.nil 5 1) fun oa oc w' h' => ?_⟩
 intro _
 simp only [rdC_mk]
 rw [List.nil_append] at h' ⊢
 exact ⟨oa,oc,rfl,h'⟩
def val (l : List UInt8) (n : Nat) : Nat := l.foldl (fun n b => (n * 10 + ((b.toNat + 208) % 256) % 10) % 18446744073709551616) n
theorem val_dec (u : Nat) (hu : u < 18446744073709551616) : val (Lib.decDigits u) 0 = u := by
 induction u using Nat.strongRecOn with
 | _ u ih =>
  by_cases h : u < 10
  ·rw [Lib.decDigits,dif_pos h]
   unfold val
   rw [List.foldl_cons,List.foldl_nil,dec_one h]
   omega
  ·rw [Lib.decDigits,dif_neg h]
   have := ih (u / 10) (by omega) (by omega)
   unfold val at this ⊢
   rw [List.foldl_append,this,List.foldl_cons,List.foldl_nil,dec_one (Nat.mod_lt _ (by omega))]
   omega
theorem val_lt (l : List UInt8) (n : Nat) (hn : n < 18446744073709551616) : val l n < 18446744073709551616 := by
 induction l generalizing n with
 | nil => exact hn
 | cons b l ih => exact ih _ (Nat.mod_lt _ (by omega))
theorem F37_loop {s : ByteArray} {K0 : Value -> World -> Prop} (_ : s.size <= 140737488355328) :
  ∀ (m i n k : Nat),20 - i = m -> i <= 20 -> m < k -> n < 18446744073709551616 -> i <= s.size ->
   (∀ r,r = val (((bl s).take 20).drop i) n -> K0 (.int .u64 (r : Int)) w) -> F37_2 K0 k (.string s) (.int .u64 (n : Int)) (.int .i64 (i : Int)) w := by
 intro m
 induction m with
 | zero =>
  intro i n k hm hi hk hn his hK
  obtain ⟨k,rfl⟩ : ∃ i,k = i + 1 := ⟨k - 1,by omega⟩
  have hdr : ((bl s).take 20).drop i = [] := List.drop_of_length_le (by rw [List.length_take]; omega)
  rw [hdr] at hK
  show F37_2B _ _ _ _ _ _
  unfold F37_2B
  simp only [rdS_mk,rdI_mk]
  rw [br_dec]
  refine ⟨fun _ => ?_,fun _ => hK n rfl⟩
  rw [decide_eq_false (by omega),br_false]
  exact hK n rfl
 | succ m ih =>
  intro i n k hm hi hk hn his hK
  obtain ⟨k,rfl⟩ : ∃ i,k = i + 1 := ⟨k - 1,by omega⟩
  show F37_2B _ _ _ _ _ _
  unfold F37_2B
  simp only [rdS_mk,rdI_mk]
  rw [br_dec]
  refine ⟨fun hlt => ?_,fun hge => ?_⟩
  ·have hlt : i < s.size := by omega
   rw [decide_eq_true (by omega),br_true]
   unfold F37_1
   simp only [rdS_mk,rdI_mk]
   have hb : i < (bl s).length := by rw [bl_len]; exact hlt
   refine ixT_bl (x := (bl s)[i]) (by simp [hb]) ?_
   intro _
   have hx := ((bl s)[i]).toNat_lt
   have e1 : IntKind.wrap .u64 ((IntKind.wrap .u64 ((n : Int) * 10)) + (Int.tmod (IntKind.wrap .u64 (IntKind.wrap .u8 (((bl s)[i].toNat : Int) - 48))) 10)) = (((n * 10 + (((bl s)[i].toNat + 208) % 256) % 10) % 18446744073709551616 : Nat) : Int) := by
    have a1 : IntKind.wrap .u8 (((bl s)[i].toNat : Int) - 48) = (((bl s)[i].toNat + 208) % 256 : Nat) := by rw [IntKind.wrap_u8]; omega
    rw [a1]
    have a2 : IntKind.wrap .u64 ((((bl s)[i].toNat + 208) % 256 : Nat) : Int) = ((((bl s)[i].toNat + 208) % 256 : Nat) : Int) := wrap_u64 (by omega) (by omega)
    rw [a2,Int.tmod_eq_emod_of_nonneg (by omega),IntKind.wrap_u64,IntKind.wrap_u64]
    omega
   have e2 : IntKind.wrap .i64 ((i : Int) + 1) = ((i + 1 : Nat) : Int) := by rw [wrap_i64 (by omega) (by omega)]; omega
   rw [e1,e2]
   refine ih (i + 1) _ k (by omega) (by omega) (by omega) (Nat.mod_lt _ (by omega)) (by omega) fun r hr => hK r ?_
   rw [hr]
   have hd : ((bl s).take 20).drop i = (bl s)[i] :: ((bl s).take 20).drop (i + 1) := by
    rw [List.drop_eq_getElem_cons (by rw [List.length_take]; omega),List.getElem_take]
   rw [hd]
   rfl
  ·have hdr : ((bl s).take 20).drop i = [] := List.drop_of_length_le (by rw [List.length_take,bl_len]; omega)
   rw [hdr] at hK
   exact hK n rfl
def valS (s : ByteArray) : Nat := val ((bl s).take 20) 0
theorem c37 {s : ByteArray} (hsz : s.size <= 140737488355328) : Calls Tryz.prog 37 #[.string s] w (rt (KR (.int .u64 (valS s : Int)) w)) := by
 refine F37_ok ?_
 unfold F37
 simp only [rdS_mk]
 refine ⟨21,F37_loop hsz 20 0 0 21 rfl (by omega) (by omega) (by omega) (by omega) fun r hr => ?_⟩
 intro _
 simp only [rdI_mk]
 rw [hr]
 exact KR.mk _ _
theorem valS_dec {n : Nat} (hn : n < 18446744073709551616) : valS (bs (Lib.decDigits n)) = n := by
 unfold valS
 rw [bl_bs,List.take_of_length_le (by rw [Lib.decDigits_length]; exact Lib.nDigits_le20 n hn),val_dec n hn]
end
end Go.Proofs.YtilenpnpnbdndaaGreatDoor
namespace Go.Proofs.YtilenpnpnbdndaaGreatDoor
open Go Go.Sh
set_option maxRecDepth 100000
attribute [local instance] Esc.none
theorem dg_div : ∀ b : Fin 256,IntKind.wrap .u8 (Int.tdiv (b.val : Int) 16) = ((b.val / 16 : Nat) : Int) := by decide +kernel
theorem dg_mod : ∀ b : Fin 256,Int.tmod (b.val : Int) 16 = ((b.val % 16 : Nat) : Int) := by decide +kernel
theorem ba_app (a b : ByteArray) : a ++ b = bs (bl a ++ bl b) := str_ext (by simp [bs,bl])
theorem cat_of {a b : ByteArray} {K : ByteArray -> Prop} (h : a.size + b.size <= 1000000000000) (hk : K (bs (bl a ++ bl b))) : cat a b K := by
 refine ⟨?_,?_⟩
 ·have : IntKind.i64.max = 9223372036854775807 := by decide
  rw [this]; omega
 ·rw [ba_app]; exact hk
theorem join_snoc : ∀ (ws : List (List UInt8)) (x : List UInt8),ws ≠ [] -> Lib.join (ws ++ [x]) [32] = Lib.join ws [32] ++ 32 :: x
 | [],_,h => absurd rfl h
 | [a],x,_ => by
  show Lib.join [a,x] [32] = _
  rw [join_cons2,Lib.join_one,Lib.join_one]
 | a :: b :: r,x,_ => by
  show Lib.join (a :: b :: (r ++ [x])) [32] = _
  have := join_snoc (b :: r) x (by simp)
  rw [join_cons2,join_cons2,← List.cons_append,this]
  simp
theorem joined_snoc {ws : List ByteArray} (x : ByteArray) (h : ws ≠ []) : joined (ws ++ [x]) = bs (bl (joined ws) ++ 32 :: bl x) := by
 unfold joined
 rw [List.map_append,List.map_cons,List.map_nil,join_snoc _ _ (by simpa using h),bl_bs]
theorem joined_snoc_size {ws : List ByteArray} (x : ByteArray) (h : ws ≠ []) : (joined (ws ++ [x])).size = (joined ws).size + x.size + 1 := by
 rw [joined_snoc x h,← bl_len,bl_bs,List.length_append,List.length_cons,bl_len,bl_len]; omega
section
variable {W w : World} {M : List HP}
theorem F41_loop {a : Option Addr} {c : Nat} {l : List UInt8} {K0 : Value -> World -> Prop} (hlen : l.length <= 70000000000) (hrd : ∀ w',Hs W M w' -> Rd w' a (u8v l)) :
  ∀ (l2 l1 : List UInt8) (k : Nat) (ba : Option Addr) (bc : Nat) (w : World),l = l1 ++ l2 -> l2.length < k -> Hs W (slP 5 1 ba (2 * l1.length) bc (u8v (hexs l1)) :: M) w ->
   (∀ ba' bc' w',Hs W (slP 5 1 ba' (2 * l.length) bc' (u8v (hexs l)) :: M) w' -> K0 (.slice ba' (2 * l.length) bc') w') ->
   F41_1 K0 k (.slice a l.length c) (.slice ba (2 * l1.length) bc) (.int .i64 (l1.length : Int)) w := by
 intro l2
 induction l2 with
 | nil =>
  intro l1 k ba bc w hl hk h hK
  obtain ⟨k,rfl⟩ : ∃ i,k = i + 1 := ⟨k - 1,by omega⟩
  rw [List.append_nil] at hl
  subst hl
  show F41_1B _ _ _ _ _ _
  unfold F41_1B
  simp only [rdC_mk,rdI_mk]
  rw [decide_eq_false (by omega),br_false]
  exact hK ba bc w h
 | cons b l2 ih =>
  intro l1 k ba bc w hl hk h hK
  obtain ⟨k,rfl⟩ : ∃ i,k = i + 1 := ⟨k - 1,by omega⟩
  have hll : l.length = l1.length + (l2.length + 1) := by rw [hl]; simp
  show F41_1B _ _ _ _ _ _
  unfold F41_1B
  simp only [rdC_mk,rdI_mk]
  rw [decide_eq_true (by omega),br_true]
  refine h.drw fun w2 h2 => ?_
  have hr := hrd w2 h2.drop
  obtain ⟨ad,rfl⟩ := hr.some (by rw [u8v_len]; omega)
  refine ixS_to (p := l1.length) rfl (by omega) ?_
  rw [Nat.mul_one]
  refine ldI_c (n := (b.toNat : Int)) (hr.at (by rw [hl]; simp [u8v])) ?_
  have hb := b.toNat_lt
  rw [dg_div ⟨b.toNat,hb⟩]
  refine ixT_dg (by show b.toNat / 16 < 16; omega) ?_
  refine ixS_to (p := l1.length) rfl (by omega) ?_
  rw [Nat.mul_one]
  refine ldI_c (n := (b.toNat : Int)) (hr.at (by rw [hl]; simp [u8v])) ?_
  rw [dg_mod ⟨b.toNat,hb⟩]
  refine ixT_dg (by show b.toNat % 16 < 16; omega) ?_
  refine h2.alc fun nb w3 h3 => ?_
  refine h3.append E25 1 rfl (m := 2) (news := u8v [hxd (b.toNat / 16),hxd (b.toNat % 16)]) (by simp [u8v]) (rd_blk (h3.at 0 rfl)) (u8v_one _) (by omega) (by omega) fun a' c' w4 h4 _ => ?_
  have h5 : Hs W (slP 5 1 a' (2 * l1.length + 2) c' (u8v (hexs l1) ++ u8v [hxd (b.toNat / 16),hxd (b.toNat % 16)]) :: M) w4 := h4.erase 0
  have e1 : 2 * l1.length + 2 = 2 * (l1 ++ [b]).length := by simp; omega
  have e2 : u8v (hexs l1) ++ u8v [hxd (b.toNat / 16),hxd (b.toNat % 16)] = u8v (hexs (l1 ++ [b])) := by rw [hexs_app,u8v_app]; rfl
  rw [e1,e2] at h5
  have e3 : IntKind.wrap .i64 ((l1.length : Int) + 1) = (((l1 ++ [b]).length : Nat) : Int) := by rw [wrap_i64 (by omega) (by omega)]; simp
  rw [e3,e1]
  exact ih (l1 ++ [b]) k a' c' w4 (by rw [hl]; simp) (by simp at hk; omega) h5 hK
theorem c41 {a : Option Addr} {c : Nat} {l : List UInt8} (h : Hs W M w) (hlen : l.length <= 70000000000) (hrd : ∀ w',Hs W M w' -> Rd w' a (u8v l)) :
  Calls Tryz.prog 41 #[.slice a l.length c] w (rt fun v w' => v = .string (bs (hexW l)) /\ Hs W M w') := by
 refine F41_ok ?_
 unfold F41
 simp only [rdC_mk]
 cases hl0 : l with
 | nil =>
  have e1 : (((([] : List UInt8).length : Nat) : Int) == 0) = true := rfl
  rw [e1,br_true]
  exact ⟨rfl,h⟩
 | cons x y =>
  have e1 : ((((x :: y).length : Nat) : Int) == 0) = false := beq_eq_false_iff_ne.2 (by simp; omega)
  rw [e1,br_false,← hl0]
  refine ⟨l.length + 1,F41_loop hlen hrd l [] (l.length + 1) none 0 w rfl (by omega) (h.nil 5 1) fun ba bc w3 h3 => ?_⟩
  intro _
  simp only [rdC_mk]
  have hh : (hexs l).length = 2 * l.length := hexs_len l
  have hr3 := h3.rd 0 rfl
  rw [← hh]
  refine ⟨_,_,run_bs hr3,?_⟩
  have e2 : hexW l = hexs l := by unfold hexW; rw [hl0,if_neg (by simp)]
  rw [e2]
  exact ⟨rfl,h3.drop⟩
def iV (l : List Int) : List Value := l.map (Value.int .i64)
theorem F53_loop {a : Option Addr} {c : Nat} {l : List Int} {K0 : Value -> World -> Prop} (hT : TB W) (hlen : l.length <= 10) (hin : ∀ n ∈ l,0 <= n /\ n <= 1099511627776) (hrd : ∀ w',Hs W M w' -> Rd w' a (iV l)) :
  ∀ (l2 l1 : List Int) (k : Nat) (ws : List ByteArray) (w : World),l = l1 ++ l2 -> l2.length < k -> ws ≠ [] -> (joined ws).size + 30 * l2.length <= 100000000000 -> Hs W M w ->
   (∀ w',Hs W M w' -> K0 (.string (joined (ws ++ l2.map dec))) w') -> F53_1 K0 k (.string (joined ws)) (.slice a l.length c) (.int .i64 (l1.length : Int)) w := by
 intro l2
 induction l2 with
 | nil =>
  intro l1 k ws w hl hk h0 hsz h hK
  obtain ⟨k,rfl⟩ : ∃ i,k = i + 1 := ⟨k - 1,by omega⟩
  rw [List.append_nil] at hl
  subst hl
  show F53_1B _ _ _ _ _ _
  unfold F53_1B
  simp only [rdS_mk,rdC_mk,rdI_mk]
  rw [decide_eq_false (by omega),br_false]
  simpa using hK w h
 | cons n l2 ih =>
  intro l1 k ws w hl hk h0 hsz h hK
  obtain ⟨k,rfl⟩ : ∃ i,k = i + 1 := ⟨k - 1,by omega⟩
  have hll : l.length = l1.length + (l2.length + 1) := by rw [hl]; simp
  show F53_1B _ _ _ _ _ _
  unfold F53_1B
  simp only [rdS_mk,rdC_mk,rdI_mk]
  rw [decide_eq_true (by omega),br_true]
  obtain ⟨n0,n1⟩ := hin n (by rw [hl]; simp)
  have hr := hrd w h
  obtain ⟨ad,rfl⟩ := hr.some (by simp [iV]; omega)
  have hitoa : Lib.itoa n = Lib.decDigits n.toNat := by unfold Lib.itoa; rw [if_neg (by omega)]
  have hds : (dec n).size <= 20 := by
   unfold dec
   rw [← bl_len,bl_bs,Lib.decDigits_length]
   exact Lib.nDigits_le20 _ (by omega)
  simp only [List.length_cons] at hsz
  refine cat_of (by show _ + 1 <= _; omega) ?_
  refine ixS_to (p := l1.length) rfl (by omega) ?_
  rw [Nat.mul_one]
  refine ldI_c (n := n) (hr.at (by rw [hl]; simp [iV])) ?_
  refine cl (c44 (Hs.tb h hT) (by omega) (by omega)) ?_
  rintro _ w2 ⟨rfl,hs⟩
  rw [hitoa]
  refine ⟨_,rfl,cat_of ?_ ?_⟩
  ·show (bs _).size + (dec n).size <= _
   rw [← bl_len (bs _),bl_bs]
   simp [bl_len]
   show (joined ws).size + 1 + _ <= _
   omega
  ·rw [bl_bs,bl_bs]
   have e0 : bs (bl (joined ws) ++ bl ⟨#[32]⟩ ++ Lib.decDigits n.toNat) = joined (ws ++ [dec n]) := by
    rw [joined_snoc _ h0]
    show bs (bl (joined ws) ++ [32] ++ Lib.decDigits n.toNat) = bs (bl (joined ws) ++ 32 :: bl (bs _))
    rw [bl_bs]
    simp
   rw [e0]
   have e3 : IntKind.wrap .i64 ((l1.length : Int) + 1) = (((l1 ++ [n]).length : Nat) : Int) := by rw [wrap_i64 (by omega) (by omega)]; simp
   rw [e3]
   refine ih (l1 ++ [n]) k (ws ++ [dec n]) w2 (by rw [hl]; simp) (by simp at hk; omega) (by simp) ?_ (h.same hs) fun w' h' => ?_
   ·rw [joined_snoc_size _ h0]; omega
   ·have := hK w' h'
    simpa using this
theorem c53 {a : Option Addr} {c n : Nat} {l : List Int} {s : ByteArray} {ws : List ByteArray} (hT : TB W) (h : Hs W M w) (hlen : l.length <= 10) (hn : l.length = n) (hin : ∀ n ∈ l,0 <= n /\ n <= 1099511627776) (hrd : ∀ w',Hs W M w' -> Rd w' a (iV l)) (h0 : ws ≠ []) (hs : s = joined ws) (hsz : (joined ws).size <= 1000000000) :
  Calls Tryz.prog 53 #[.string s,.slice a n c] w (rt fun v w' => v = .string (joined (ws ++ l.map dec)) /\ Hs W M w') := by
 subst hn
 subst hs
 refine F53_ok ?_
 unfold F53
 simp only [rdS_mk,rdC_mk]
 refine ⟨l.length + 1,F53_loop hT hlen hin hrd l [] (l.length + 1) ws w rfl (by omega) h0 (by omega) h fun w' h' => ?_⟩
 intro _
 simp only [rdS_mk]
 exact ⟨by first | rfl | trivial,h'⟩
theorem slT_mid {s : ByteArray} {k k' : IntKind} {i j : Nat} {K : ByteArray -> Prop} (hi : i <= j) (hj : j <= s.size) (hk : K (bs (((bl s).drop i).take (j - i)))) : slT s (some (.int k (i : Int))) (some (.int k' (j : Int))) K := by
 refine ⟨⟨by omega,by omega⟩,⟨by omega,by omega⟩,?_⟩
 show K (s.extract ((i : Int).toNat) ((j : Int).toNat))
 have : s.extract ((i : Int).toNat) ((j : Int).toNat) = bs (((bl s).drop i).take (j - i)) := str_ext (by
  simp [bs,bl,ByteArray.data_extract])
 rw [this]; exact hk
theorem wsV_lenN (ws : List ByteArray) : (wsV ws).length = ws.length := by simp [wsV]
theorem F35_loop {s : ByteArray} {K0 : Value -> World -> Prop} (hsz : s.size <= 8000000) :
  ∀ (u p : List UInt8) (Wd : List ByteArray) (i fr k : Nat) (oa : Option Addr) (oc : Nat) (w : World),(bl s).drop fr = p ++ u -> fr + p.length = i -> i + u.length = s.size -> Wd.length <= fr -> 32 ∉ p -> u.length + 1 < k ->
   Hs W (slP 9 1 oa Wd.length oc (wsV Wd) :: M) w ->
   (∀ oa' oc' w' R,R = Wd ++ (wrds (p ++ u)).map bs -> Hs W (slP 9 1 oa' R.length oc' (wsV R) :: M) w' -> K0 (.slice oa' R.length oc') w') ->
   F35_2 K0 k (.string s) (.slice oa Wd.length oc) (.int .i64 (fr : Int)) (.int .i64 (i : Int)) w := by
 intro u
 induction u with
 | nil =>
  intro p Wd i fr k oa oc w hd hf hi hW hp hk h hK
  obtain ⟨k,rfl⟩ : ∃ i,k = i + 1 := ⟨k - 1,by omega⟩
  have his : i = s.size := by simpa using hi
  show F35_2B _ _ _ _ _ _ _
  unfold F35_2B
  simp only [rdS_mk,rdC_mk,rdI_mk]
  have e1 : ((i : Int) == (s.size : Int)) = true := by rw [his]; simp
  rw [decide_eq_true (by omega),br_true,e1,br_true]
  unfold F35_1
  simp only [rdS_mk,rdC_mk,rdI_mk,rdB_mk]
  rw [br_true]
  refine slT_mid (by omega) (by omega) ?_
  have e2 : bs (((bl s).drop fr).take (i - fr)) = bs p := by rw [hd,List.append_nil,List.take_of_length_le (by omega)]
  rw [e2]
  refine h.alc fun nb w2 h2 => ?_
  refine h2.append E77 1 rfl (m := 1) (news := [.string (bs p)]) rfl (rd_blk (h2.at 0 rfl)) (by simp [Value.oneCell']) (by omega) (by omega) fun a' c' w3 h3 _ => ?_
  have h4 : Hs W (slP 9 1 a' (Wd.length + 1) c' (wsV Wd ++ [.string (bs p)]) :: M) w3 := h3.erase 0
  have e4 : wsV Wd ++ [.string (bs p)] = wsV (Wd ++ [bs p]) := by simp [wsV]
  have e5 : Wd.length + 1 = (Wd ++ [bs p]).length := by simp
  rw [e4,e5] at h4
  have e6 : IntKind.wrap .i64 ((i : Int) + 1) = ((i + 1 : Nat) : Int) := by rw [wrap_i64 (by omega) (by omega)]; omega
  intro _
  rw [e6,e5]
  obtain ⟨k,rfl⟩ : ∃ i,k = i + 1 := ⟨k - 1,by simp at hk; omega⟩
  show F35_2B _ _ _ _ _ _ _
  unfold F35_2B
  simp only [rdS_mk,rdC_mk,rdI_mk]
  rw [decide_eq_false (by omega),br_false]
  refine hK a' c' w3 (Wd ++ [bs p]) ?_ h4
  rw [List.append_nil,wrds_none hp]
  rfl
 | cons x u ih =>
  intro p Wd i fr k oa oc w hd hf hi hW hp hk h hK
  obtain ⟨k,rfl⟩ : ∃ i,k = i + 1 := ⟨k - 1,by omega⟩
  have hi : i + (u.length + 1) = s.size := hi
  show F35_2B _ _ _ _ _ _ _
  unfold F35_2B
  simp only [rdS_mk,rdC_mk,rdI_mk]
  have e1 : ((i : Int) == (s.size : Int)) = false := beq_eq_false_iff_ne.2 (by omega)
  rw [decide_eq_true (by omega),br_true,e1,br_false]
  have hx : (bl s)[i]? = some x := by
   have := congrArg (fun l => l[p.length]?) hd
   simp only [List.getElem?_drop] at this
   rw [hf] at this
   rw [this]
   simp
  refine ixT_bl hx ?_
  unfold F35_1
  simp only [rdS_mk,rdC_mk,rdI_mk,rdB_mk]
  have e6 : IntKind.wrap .i64 ((i : Int) + 1) = ((i + 1 : Nat) : Int) := by rw [wrap_i64 (by omega) (by omega)]; omega
  by_cases h32 : x = 32
  ·subst h32
   have e7 : ((((32 : UInt8).toNat : Nat) : Int) == 32) = true := rfl
   rw [e7,br_true]
   refine slT_mid (by omega) (by omega) ?_
   have e2 : bs (((bl s).drop fr).take (i - fr)) = bs p := by
    rw [hd]
    have : i - fr = p.length := by omega
    rw [this,List.take_left']
    rfl
   rw [e2]
   refine h.alc fun nb w2 h2 => ?_
   refine h2.append E77 1 rfl (m := 1) (news := [.string (bs p)]) rfl (rd_blk (h2.at 0 rfl)) (by simp [Value.oneCell']) (by omega) (by omega) fun a' c' w3 h3 _ => ?_
   have h4 : Hs W (slP 9 1 a' (Wd.length + 1) c' (wsV Wd ++ [.string (bs p)]) :: M) w3 := h3.erase 0
   have e4 : wsV Wd ++ [.string (bs p)] = wsV (Wd ++ [bs p]) := by simp [wsV]
   have e5 : Wd.length + 1 = (Wd ++ [bs p]).length := by simp
   rw [e4,e5] at h4
   intro _
   rw [e6,e5]
   refine ih [] (Wd ++ [bs p]) (i + 1) (i + 1) k a' c' w3 ?_ (by simp) (by omega) (by simp; omega) (by simp) (by simp at hk; omega) h4 fun oa' oc' w' R hR h' => hK oa' oc' w' R ?_ h'
   ·have := congrArg (List.drop (p.length + 1)) hd
    rw [List.drop_drop] at this
    have e8 : fr + (p.length + 1) = i + 1 := by omega
    rw [e8] at this
    rw [this,← List.drop_drop]
    simp
   ·rw [hR,wrds_split _ _ hp]
    simp
  ·have e7 : ((x.toNat : Int) == 32) = false := beq_eq_false_iff_ne.2 fun e => h32 (UInt8.toNat.inj (by show x.toNat = 32; omega))
   rw [e7,br_false]
   intro _
   rw [e6]
   refine ih (p ++ [x]) Wd (i + 1) fr k oa oc w (by rw [hd]; simp) (by simp; omega) (by omega) hW ?_ (by simp at hk; omega) h fun oa' oc' w' R hR h' => hK oa' oc' w' R (by rw [hR]; simp) h'
   simp [hp]
   exact fun e => h32 e.symm
theorem c35 {s : ByteArray} (hsz : s.size <= 8000000) (h : Hs W M w) : Calls Tryz.prog 35 #[.string s] w (rt fun v w' => ∃ a c,v = .slice a (words s).length c /\ Hs W (slP 9 1 a (words s).length c (wsV (words s)) :: M) w') := by
 refine F35_ok ?_
 unfold F35
 simp only [rdS_mk]
 refine ⟨s.size + 2,F35_loop hsz (bl s) [] [] 0 0 (s.size + 2) none 0 w rfl rfl (by rw [bl_len]; omega) (by simp) (by simp) (by rw [bl_len]; omega) (h.nil 9 1) fun oa oc w' R hR h' => ?_⟩
 intro _
 simp only [rdC_mk]
 have : R = words s := hR
 subst this
 exact ⟨oa,oc,rfl,h'⟩
def kindOf (s : ByteArray) : Int := ((vtab.find? fun t => decide (t.2.1 = s)).map (·.1)).getD 0
theorem vtab_idx : ∀ i : Fin 14,vtab[i.val]?.map (·.1) = some ((i.val : Int) + 1) := by decide +kernel
theorem F36_loop {s : ByteArray} {ba : Addr} {K0 : World -> Prop} {Kr : Value -> World -> Prop} (hr : Rd w (some ba) (vtab.map fun t => Value.string t.2.1)) (hK : ∀ n : Int,kindOf s = n -> n = 0 -> K0 w) (hR : ∀ n : Int,kindOf s = n -> Kr (.int .i64 n) w) :
  ∀ (l2 l1 : List Vb) (k : Nat),vtab = l1 ++ l2 -> l2.length < k -> ((l2.find? fun t => decide (t.2.1 = s)).map (·.1)).getD 0 = kindOf s -> F36_1 K0 Kr k (.string s) (.slice (some ba) 14 14) (.int .i64 (l1.length : Int)) w := by
 intro l2
 induction l2 with
 | nil =>
  intro l1 k hl hk he
  obtain ⟨k,rfl⟩ : ∃ i,k = i + 1 := ⟨k - 1,by omega⟩
  have hlen : l1.length = 14 := by have := congrArg List.length hl; simp at this; rw [← this]; rfl
  show F36_1B _ _ _ _ _ _ _
  unfold F36_1B
  simp only [rdS_mk,rdC_mk,rdI_mk]
  rw [hlen,decide_eq_false (by decide),br_false]
  exact hK 0 he.symm rfl
 | cons t l2 ih =>
  intro l1 k hl hk he
  obtain ⟨k,rfl⟩ : ∃ i,k = i + 1 := ⟨k - 1,by omega⟩
  have hlen : l1.length + (l2.length + 1) = 14 := by have := congrArg List.length hl; simp at this; rw [← this]; rfl
  show F36_1B _ _ _ _ _ _ _
  unfold F36_1B
  simp only [rdS_mk,rdC_mk,rdI_mk]
  rw [decide_eq_true (by omega),br_true]
  refine ixS_to (p := l1.length) rfl (by omega) ?_
  rw [Nat.mul_one]
  refine ldS_c (n := t.2.1) (hr.at (by rw [hl]; simp)) ?_
  have e3 : IntKind.wrap .i64 ((l1.length : Int) + 1) = ((l1.length + 1 : Nat) : Int) := by rw [wrap_i64 (by omega) (by omega)]; omega
  rw [str_beq,e3,br_dec]
  refine ⟨fun e => hR _ ?_,fun e => ?_⟩
  ·rw [← he,List.find?_cons,decide_eq_true e]
   have h1 := vtab_idx ⟨l1.length,by omega⟩
   have h2 : vtab[l1.length]? = some t := by rw [hl]; simp
   simp only at h1
   rw [h2] at h1
   have h3 : t.1 = (l1.length : Int) + 1 := by simpa using h1
   show t.1 = _
   rw [h3]; omega
  ·have := ih (l1 ++ [t]) k (by rw [hl]; simp) (by simp at hk; omega) (by rw [← he,List.find?_cons,decide_eq_false e])
   have e5 : (l1 ++ [t]).length = l1.length + 1 := by simp
   rw [e5] at this
   exact this
theorem c36 {s : ByteArray} (h : Hs W M w) : Calls Tryz.prog 36 #[.string s] w (rt fun v w' => v = .int .i64 (kindOf s) /\ Hs W M w') := by
 refine F36_ok ?_
 unfold F36
 simp only [rdS_mk]
 refine h.alc fun b w2 h2 => ?_
 refine ⟨15,F36_loop (rd_blk (cs := vtab.map fun t => Value.string t.2.1) (h2.at 0 rfl)) (fun n hn h0 => ?_) (fun n hn => ?_) vtab [] 15 rfl (by decide) rfl⟩
 ·intro _
  rw [hn,h0]
  exact ⟨rfl,h2.drop⟩
 ·intro _
  simp only [rdI_mk]
  rw [hn]
  exact ⟨rfl,h2.drop⟩
theorem c12 {R1 R2 : R26} {d1 d2 : List UInt8} (h : Hs W M w) (h1 : Holds26 w R1 d1) (h2 : Holds26 w R2 d2) : Calls Tryz.prog 12 #[R1.v,R2.v] w (rt fun v w' => v = .bool (sameB R1 d1 R2 d2) /\ Hs W M w') := by
 refine F12_ok ?_
 unfold F12
 refine exR26_of R1 ⟨rfl,exR26_of R2 ⟨rfl,?_⟩⟩
 refine alcS h fun b3 w3 h3 hs3 => alcS h3 fun b5 w9 h9 hs5 => ?_
 have hs : Same w w9 := hs3.trans hs5 fun _ _ x => x
 have hM := h9.drop.drop
 refine h9.ldI 1 rfl rfl (h9.ldI 0 rfl rfl (br_and (fun e0 => ?_) (fun e0 => ⟨by unfold sameB; rw [e0]; simp only [Bool.false_and,Bool.and_false],hM⟩)))
 refine h9.ldI 1 rfl rfl (h9.ldI 0 rfl rfl (br_and (fun e1 => ?_) (fun e1 => ⟨by unfold sameB; rw [e1]; simp only [Bool.false_and,Bool.and_false],hM⟩)))
 refine h9.ldI 1 rfl rfl (h9.ldI 0 rfl rfl (br_and (fun e2 => ?_) (fun e2 => ⟨by unfold sameB; rw [e2]; simp only [Bool.false_and,Bool.and_false],hM⟩)))
 refine h9.ldI 1 rfl rfl (h9.ldI 0 rfl rfl (br_and (fun e3 => ?_) (fun e3 => ⟨by unfold sameB; rw [e3]; simp only [Bool.false_and,Bool.and_false],hM⟩)))
 refine h9.ldI 1 rfl rfl (h9.ldI 0 rfl rfl (br_and (fun e4 => ?_) (fun e4 => ⟨by unfold sameB; rw [e4]; simp only [Bool.false_and,Bool.and_false],hM⟩)))
 refine h9.ldI 1 rfl rfl (h9.ldI 0 rfl rfl (br_and (fun e5 => ?_) (fun e5 => ⟨by unfold sameB; rw [e5]; simp only [Bool.false_and,Bool.and_false],hM⟩)))
 refine h9.ldI 1 rfl rfl (h9.ldI 0 rfl rfl (br_and (fun e6 => ?_) (fun e6 => ⟨by unfold sameB; rw [e6]; simp only [Bool.false_and,Bool.and_false],hM⟩)))
 refine h9.ldI 1 rfl rfl (h9.ldI 0 rfl rfl (br_and (fun e7 => ?_) (fun e7 => ⟨by unfold sameB; rw [e7]; simp only [Bool.false_and,Bool.and_false],hM⟩)))
 refine h9.ldI 1 rfl rfl (h9.ldI 0 rfl rfl (br_and (fun e8 => ?_) (fun e8 => ⟨by unfold sameB; rw [e8]; simp only [Bool.false_and,Bool.and_false],hM⟩)))
 refine h9.ldB 1 rfl rfl (h9.ldB 0 rfl rfl (br_and (fun e9 => ?_) (fun e9 => ⟨by unfold sameB; rw [e9]; simp only [Bool.false_and,Bool.and_false],hM⟩)))
 refine h9.ldC 1 rfl rfl ?_
 have r1 := run_bs (c := R1.f10c) (h1.same hs).rd
 have r2 := run_bs (c := R2.f10c) (h2.same hs).rd
 rw [← h1.len] at r1
 rw [← h2.len] at r2
 refine ⟨_,_,r1,?_⟩
 refine h9.ldC 0 rfl rfl ?_
 refine ⟨_,_,r2,?_⟩
 rw [str_beq]
 have ed : decide (bs d1 = bs d2) = decide (d1 = d2) := decide_eq_decide.2 ⟨fun e => bs_inj e,fun e => by rw [e]⟩
 rw [ed]
 refine br_and (fun e10 => ?_) (fun e10 => ⟨by unfold sameB; rw [e10]; simp only [Bool.false_and],hM⟩)
 refine h9.ldS 1 rfl rfl (h9.ldS 0 rfl rfl ?_)
 rw [str_beq]
 exact ⟨by unfold sameB; rw [e10,e0,e1,e2,e3,e4,e5,e6,e7,e8,e9]; simp only [Bool.true_and],hM⟩
end
end Go.Proofs.YtilenpnpnbdndaaGreatDoor
