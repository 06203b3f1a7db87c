/- Own text: part of the shallow reading of the code and of the contracts that are proved over it. -/
import Derived.Test.YtilenpnpnbdndaaGreatDoorSqK
import Derived.Laws.CopyRow
namespace Go.Proofs.YtilenpnpnbdndaaGreatDoor
open Go Go.Sh
set_option maxRecDepth 100000
section
variable {W w : World} {M : List HP} {lb : Nat} {ws : List ByteArray}
theorem ixT_bl {s : ByteArray} {j : Nat} {x : UInt8} {K : Int -> Prop} (h : (bl s)[j]? = some x) (hk : K (x.toNat : Int)) : ixT s (j : Int) K := by
 refine ⟨x,⟨by omega,?_⟩,hk⟩
 show s.data[j]? = some x
 rw [← Array.getElem?_toList]
 exact h
theorem c67n {s : ByteArray} {x : UInt8} {w : World} : Calls Tryz.prog 67 #[.string s,.int .u8 (x.toNat : Int)] w (rt (KR (.int .i64 (Lib.indexByte s.data.toList x)) w)) := by
 have := c67 (s := s) (c := (x.toNat : Int)) (w := w)
 rwa [u8_back] at this
theorem F58_1_go {K : Value -> Value -> Value -> World -> Prop} {s : ByteArray} {l1 : List UInt8} {oa : Option Addr} {oc : Nat} {i : Int} {p q : Nat} (hp : p < 16) (hq : q < 16) (hl : l1.length <= 70000)
  (h : Hs W (slP 5 1 oa l1.length oc (u8v l1) :: M) w)
  (hk : ∀ oa' oc' w',Hs W (slP 5 1 oa' (l1.length + 1) oc' (u8v (l1 ++ [UInt8.ofNat (p * 16 + q)])) :: M) w' -> K (.string s) (.slice oa' (l1.length + 1) oc') (.int .i64 i) w') :
  F58_1 K (.string s) (.slice oa l1.length oc) (.int .i64 i) (.int .i64 (p : Int)) (.int .i64 (q : Int)) w := by
 unfold F58_1
 simp only [rdS_mk,rdC_mk,rdI_mk]
 rw [dg_byte ⟨p,hp⟩ ⟨q,hq⟩]
 refine h.alc fun nb w3 h3 => ?_
 have e : u8v [UInt8.ofNat (p * 16 + q)] = [.int .u8 ((p * 16 + q : Nat) : Int)] := by simp only [u8v,List.map_cons,List.map_nil]; rw [hex_byte hp hq]
 refine h3.append E25 1 rfl (m := 1) (news := u8v [UInt8.ofNat (p * 16 + q)]) (by simp [u8v]) (rd_blk (T := 5) (z := (0,0)) ?_) (u8v_one _) (by omega) (by omega) fun a' c' w4 h4 _ => ?_
 ·rw [e]
  exact h3.at 0 rfl
 ·have h5 : Hs W (slP 5 1 a' (l1.length + 1) c' (u8v l1 ++ u8v [UInt8.ofNat (p * 16 + q)]) :: M) w4 := h4.erase 0
  rw [← u8v_app] at h5
  exact hk a' c' w4 h5
theorem hexs_two {l : List UInt8} {p q : UInt8} {t : List UInt8} (h : hexs l = p :: q :: t) : ∃ x y,x < 16 /\ y < 16 /\ p = hxd x /\ q = hxd y := by
 cases l with
 | nil => cases h
 | cons b l =>
  rw [hexs_cons] at h
  injection h with h1 h2
  injection h2 with h2 _
  have := b.toNat_lt
  exact ⟨_,_,by omega,by omega,h1.symm,h2.symm⟩
theorem F58_3_loop [Esc] {s : ByteArray} {K0 : Value -> World -> Prop} (hsz : s.size <= 131072) :
  ∀ (m : Nat) (l1 u2 : List UInt8) (k : Nat) (oa : Option Addr) (oc : Nat) (w : World),bl s = hexs l1 ++ u2 -> u2.length = 2 * m -> m < k -> Hs W (slP 5 1 oa l1.length oc (u8v l1) :: M) w ->
   (∀ l oa' oc' w',bl s = hexs l -> Hs W (slP 5 1 oa' l.length oc' (u8v l) :: M) w' -> K0 (.slice oa' l.length oc') w') ->
   (∀ w',(∀ l,bl s ≠ hexs l) -> Hs W M w' -> Esc.E (PE 250) w') ->
   F58_3 K0 k (.string s) (.slice oa l1.length oc) (.int .i64 ((2 * l1.length : Nat) : Int)) w := by
 intro m
 induction m with
 | zero =>
  intro l1 u2 k oa oc w hb hu hk h hK hE
  obtain ⟨k,rfl⟩ : ∃ i,k = i + 1 := ⟨k - 1,by omega⟩
  have : u2 = [] := List.length_eq_zero_iff.1 (by omega)
  subst this
  rw [List.append_nil] at hb
  have hs : s.size = 2 * l1.length := by rw [← bl_len,hb,hexs_len]
  show F58_3B _ _ _ _ _ _
  unfold F58_3B
  simp only [rdS_mk,rdC_mk,rdI_mk]
  rw [decide_eq_false (by omega),br_false]
  exact hK l1 oa oc w hb h
 | succ m ih =>
  intro l1 u2 k oa oc w hb hu hk h hK hE
  obtain ⟨k,rfl⟩ : ∃ i,k = i + 1 := ⟨k - 1,by omega⟩
  obtain ⟨p,q,t,rfl⟩ : ∃ p q t,u2 = p :: q :: t := by
   match u2,hu with
   | [],hu => simp at hu
   | [_],hu => simp at hu; omega
   | p :: q :: t,_ => exact ⟨p,q,t,rfl⟩
  have hs : s.size = 2 * l1.length + (2 * m + 2) := by rw [← bl_len,hb,List.length_append,hexs_len]; simp at hu ⊢; omega
  show F58_3B _ _ _ _ _ _
  unfold F58_3B
  simp only [rdS_mk,rdC_mk,rdI_mk]
  rw [decide_eq_true (by omega),br_true]
  refine h.drw fun w2 h2 => ?_
  have hp : (bl s)[2 * l1.length]? = some p := by rw [hb,List.getElem?_append_right (by rw [hexs_len]; omega),hexs_len]; simp
  have hq : (bl s)[2 * l1.length + 1]? = some q := by rw [hb,List.getElem?_append_right (by rw [hexs_len]; omega),hexs_len]; simp
  have e1 : IntKind.wrap .i64 (((2 * l1.length : Nat) : Int) + 1) = ((2 * l1.length + 1 : Nat) : Int) := by rw [wrap_i64 (by omega) (by omega)]; omega
  rw [e1]
  refine ixT_bl hp (ixT_bl hq ?_)
  have hbad : (∀ x,x < 16 -> p ≠ hxd x) \/ (∀ x,x < 16 -> q ≠ hxd x) -> ∀ l,bl s ≠ hexs l := fun hn l e => by
   have h1 : hexs (l.drop l1.length) = p :: q :: t := by
    rw [← hexs_drop,← e,hb,List.drop_append_of_le_length (by rw [hexs_len]; omega),List.drop_of_length_le (by rw [hexs_len]; omega)]
    rfl
   obtain ⟨x,y,hx,hy,ex,ey⟩ := hexs_two h1
   rcases hn with hn | hn
   ·exact hn x hx ex
   ·exact hn y hy ey
  refine clr c67n ⟨_,rfl,?_⟩
  refine clr c67n ⟨_,rfl,?_⟩
  have hpp := idx_dg p
  have hqq := idx_dg q
  unfold dgS at hpp hqq
  rw [br_dec]
  refine ⟨fun h0 => ?_,fun h0 => ?_⟩
  ·obtain ⟨x,hx,rfl,ex⟩ := hpp.resolve_right fun h1 => absurd h1.1 (by omega)
   refine clp c28 ?_ ?_
   ·rintro _ w3 ⟨hb1,rfl,rfl⟩
    have hb1 := of_decide_eq_true hb1
    obtain ⟨y,hy,rfl,ey⟩ := hqq.resolve_right fun h1 => absurd h1.1 (by omega)
    refine ⟨rfl,?_⟩
    rw [ex,ey]
    refine F58_1_go hx hy (by omega) h2 fun oa' oc' w4 h4 => ?_
    intro _
    simp only [rdS_mk,rdC_mk,rdI_mk]
    have e3 : IntKind.wrap .i64 (((2 * l1.length : Nat) : Int) + 2) = ((2 * (l1 ++ [UInt8.ofNat (x * 16 + y)]).length : Nat) : Int) := by rw [wrap_i64 (by omega) (by omega)]; simp; omega
    have e4 : l1.length + 1 = (l1 ++ [UInt8.ofNat (x * 16 + y)]).length := by simp
    rw [e3]
    rw [e4] at h4 ⊢
    refine ih (l1 ++ [UInt8.ofNat (x * 16 + y)]) t k oa' oc' w4 ?_ (by simp at hu; omega) (by omega) h4 hK hE
    rw [hb,hexs_app,hexs_cons,hex_byte hx hy,hexs_nil]
    have e5 : (x * 16 + y) / 16 = x := by omega
    have e6 : (x * 16 + y) % 16 = y := by omega
    rw [e5,e6]
    simp
   ·rintro ch _ ⟨hb1,rfl,rfl⟩
    have hb1 := of_decide_eq_false hb1
    refine hE _ (hbad (.inr ?_)) h2.drop
    rcases hqq with ⟨y,hy,_,ey⟩ | ⟨_,hn⟩
    ·rw [ey] at hb1; omega
    ·exact hn
  ·refine clp c28 ?_ ?_
   ·rintro _ _ ⟨hb1,_⟩
    cases hb1
   ·rintro ch _ ⟨_,rfl,rfl⟩
    refine hE _ (hbad (.inl ?_)) h2.drop
    rcases hpp with ⟨y,hy,_,ey⟩ | ⟨_,hn⟩
    ·rw [ey] at h0; omega
    ·exact hn
theorem c58r {x : Option Addr} {n c : Nat} (h : Hs W (lnP lb true ws :: M) w) (hsm : small ws) :
  Calls Tryz.prog 58 #[.pointer (some ⟨lb,0,none⟩),.slice x n c] w (rtp (fun v w' => ∃ l rest a c',l.length <= 65536 /\ ws = bs (hexW l) :: rest /\ v = .slice a l.length c' /\ Hs W (slP 5 1 a l.length c' (u8v l) :: lnP lb true rest :: M) w')
   (fun ch w' => ch = PE 250 /\ (∀ l rest,l.length <= 65536 -> ws ≠ bs (hexW l) :: rest) /\ Hs W M w')) := by
 refine escI fun hE => F58_ok ?_
 obtain ⟨la,lc,h1⟩ := ln_open h
 unfold F58
 simp only [rdP_mk,rdC_mk,nn]
 refine h1.ldB 0 rfl rfl ?_
 rw [Bool.not_true,br_false]
 refine clp (c81 h) ?_ ?_
 ·rintro _ w2 ⟨s,rest,rfl,rfl,h2⟩
  refine ⟨s,rfl,?_⟩
  have hno : ∀ w',(∀ l,l.length <= 65536 -> bl s ≠ hexW l) -> Hs W M w' -> Esc.E (PE 250) w' := fun w' hx hs =>
   hE _ _ ⟨rfl,fun l r2 hl he => by
    injection he with he _
    exact hx l hl (by rw [he,bl_bs]),hs⟩
  rw [str_beq,str_beq,br_dec]
  refine ⟨fun he => ?_,fun he => ?_⟩
  ·subst he
   refine ⟨[],rest,none,0,by simp,rfl,by first | rfl | trivial,?_⟩
   exact h2.nil 5 1
  ·have h45 : bl s ≠ [45] := fun e => he (by rw [← bs_bl s,e]; rfl)
   have hx0 : ∀ l,bl s = hexW l -> l ≠ [] /\ bl s = hexs l := fun l e => by
    unfold hexW at e
    split at e
    ·exact absurd e h45
    ·rename_i hne
     exact ⟨hne,e⟩
   have hbr : ∀ {A B : Prop} (b : Bool),(b = true -> A) -> (b = false -> B) -> br b A B := fun b ha hb => by cases b with | true => rw [br_true]; exact ha rfl | false => rw [br_false]; exact hb rfl
   have hgo : ∀ w3,Hs W (lnP lb true rest :: M) w3 -> s.size % 2 = 0 -> s.size ≠ 0 -> s.size <= 131072 -> ∀ {K : Value -> World -> Prop},
     (∀ l a c' w',l.length <= 65536 -> s = bs (hexW l) -> Hs W (slP 5 1 a l.length c' (u8v l) :: lnP lb true rest :: M) w' -> K (.slice a l.length c') w') -> F58_4 K (.string s) w3 := by
    intro w3 h3 h2' h0 hmax K hK
    unfold F58_4
    simp only [rdS_mk]
    refine ⟨s.size + 1,F58_3_loop (W := W) (M := lnP lb true rest :: M) hmax (s.size / 2) [] (bl s) (s.size + 1) none 0 w3 rfl (by rw [bl_len]; omega) (by omega) (h3.nil 5 1) (fun l oa oc w4 hl h4 => ?_) (fun w4 hn hs => ?_)⟩
    ·intro _
     simp only [rdC_mk]
     have hlen : s.size = 2 * l.length := by rw [← bl_len,hl,hexs_len]
     refine hK l oa oc w4 (by omega) ?_ h4
     unfold hexW
     rw [if_neg (fun e => h0 (by rw [hlen,e]; rfl)),← hl,bs_bl]
    ·exact hno w4 (fun l _ e => hn l (hx0 l e).2) hs.drop
   refine hbr _ (fun hb => ?_) (fun hb => ?_)
   ·rw [Bool.not_eq_true'] at hb
    have hne := of_decide_eq_false hb
    have h0 : s.size ≠ 0 := fun e => by
     have e1 : bl s = [] := List.length_eq_zero_iff.1 (by rw [bl_len,e])
     exact hne (by rw [← bs_bl s,e1]; rfl)
    refine hbr _ (fun hb2 => ?_) (fun hb2 => ?_)
    ·have hmod : s.size % 2 = 0 := by
      have : Int.tmod (s.size : Int) 2 = 0 := by simpa using hb2
      rw [Int.tmod_eq_emod_of_nonneg (by omega)] at this
      omega
     have hdiv : IntKind.wrap .i64 (Int.tdiv (s.size : Int) 2) = ((s.size / 2 : Nat) : Int) := by
      have hsz := hsm s (by simp)
      have : Int.tdiv (s.size : Int) 2 = ((s.size / 2 : Nat) : Int) := by rw [Int.tdiv_eq_ediv_of_nonneg (by omega)]; omega
      rw [this,wrap_i64 (by omega) (by omega)]
     rw [hdiv]
     refine clp c28 ?_ ?_
     ·rintro _ w3 ⟨hb3,rfl,rfl⟩
      have hb3 := of_decide_eq_true hb3
      refine ⟨rfl,hgo _ h2 hmod h0 (by omega) fun l a c' w' hl hs h4 => ?_⟩
      intro _
      simp only [rdC_mk]
      exact ⟨l,rest,a,c',hl,by rw [← hs],by first | rfl | trivial,h4⟩
     ·rintro ch _ ⟨hb3,rfl,rfl⟩
      have hb3 := of_decide_eq_false hb3
      refine hno _ (fun l hl e => ?_) h2.drop
      have := congrArg List.length (hx0 l e).2
      rw [bl_len,hexs_len] at this
      omega
    ·refine clp c28 ?_ ?_
     ·rintro _ _ ⟨hb3,_⟩
      cases hb3
     ·rintro ch _ ⟨_,rfl,rfl⟩
      refine hno _ (fun l hl e => ?_) h2.drop
      have hlen := congrArg List.length (hx0 l e).2
      rw [bl_len,hexs_len] at hlen
      have : (Int.tmod (s.size : Int) 2 == 0) = true := by
       rw [Int.tmod_eq_emod_of_nonneg (by omega)]
       have : (s.size : Int) % 2 = 0 := by omega
       rw [this]; rfl
      rw [this] at hb2
      cases hb2
   ·rw [Bool.not_eq_false'] at hb
    have he0 := of_decide_eq_true hb
    refine clp c28 ?_ ?_
    ·rintro _ _ ⟨hb3,_⟩
     cases hb3
    ·rintro ch _ ⟨_,rfl,rfl⟩
     refine hno _ (fun l hl e => ?_) h2.drop
     obtain ⟨h3,h4⟩ := hx0 l e
     have := congrArg List.length h4
     rw [hexs_len,he0] at this
     have h5 : l.length = 0 := by
      have : (bl ⟨#[]⟩).length = 0 := rfl
      omega
     exact h3 (List.length_eq_zero_iff.1 h5)
 ·rintro ch w2 ⟨rfl,rfl,h2⟩
  exact hE _ _ ⟨rfl,⟨fun l r2 _ he => (nomatch he),h2⟩⟩
end
end Go.Proofs.YtilenpnpnbdndaaGreatDoor
namespace Go.Proofs.YtilenpnpnbdndaaGreatDoor
open Go Go.Sh
set_option maxRecDepth 100000
def confItems : List It := [.lit ⟨#[99,111,110,102]⟩,.lit ⟨#[115,101,101,100]⟩,.num 16 .u64 18446744073709551615,.lit ⟨#[107,101,121]⟩,.key,.lit ⟨#[108,105,102,101]⟩,.num 17 .i64 1099511627776,.lit ⟨#[119,105,110,100,111,119]⟩,.num 18 .u32 4294967295,.lit ⟨#[111,117,116]⟩,.num 19 .u16 65535,.lit ⟨#[105,110]⟩,.num 20 .u16 65535,.lit ⟨#[116,114,105,101,115]⟩,.num 21 .i64 1099511627776,.lit ⟨#[108,97,115,116,115]⟩,.num 22 .i64 1099511627776,.lit ⟨#[112,111,114,116]⟩,.num 23 .u16 65535,.lit ⟨#[112,101,101,114]⟩,.num 24 .u16 65535,.lit ⟨#[112,97,116,104,115]⟩,.num 25 .i64 1099511627776,.lit ⟨#[109,116,117]⟩,.num 26 .i64 1099511627776,.lit ⟨#[98,117,102,102,101,114]⟩,.num 27 .i64 1099511627776,.lit ⟨#[105,110,105,116]⟩,.num 28 .i64 1099511627776,.lit ⟨#[109,105,110]⟩,.num 29 .i64 1099511627776,.lit ⟨#[109,97,120]⟩,.num 30 .i64 1099511627776,.lit ⟨#[101,114,114,111,114,115]⟩,.num 31 .i64 1099511627776,.lit ⟨#[102,97,105,108]⟩,.num 32 .i64 1099511627776,.lit ⟨#[112,97,117,115,101]⟩,.num 33 .i64 1099511627776,.lit ⟨#[109,111,115,116]⟩,.num 34 .i64 1099511627776,.lit ⟨#[100,101,108,97,121]⟩,.num 35 .i64 1099511627776,.lit ⟨#[115,99,104,101,100]⟩,.num 36 .i64 1099511627776,.lit ⟨#[99,97,112]⟩,.num 37 .i64 1099511627776,.lit ⟨#[115,112,108,105,116]⟩,.flag 38 ⟨#[48]⟩ ⟨#[49]⟩,.lit ⟨#[110,114]⟩,.flag 39 ⟨#[48]⟩ ⟨#[49]⟩,.lit ⟨#[99,111,117,112,108,101]⟩,.flag 40 ⟨#[48]⟩ ⟨#[49]⟩]
def cfK : List (Nat × IntKind) := [(16,.u64),(17,.i64),(18,.u32),(19,.u16),(20,.u16),(21,.i64),(22,.i64),(23,.u16),(24,.u16),(25,.i64),(26,.i64),(27,.i64),(28,.i64),(29,.i64),(30,.i64),(31,.i64),(32,.i64),(33,.i64),(34,.i64),(35,.i64),(36,.i64),(37,.i64)]
def Shape (cs : Array Value) : Prop := ∃ R : R49,cs = R.c
theorem Shape.num {cs : Array Value} {o : Nat} {k : IntKind} {n : Int} (h : Shape cs) (hm : (o,k) ∈ cfK) : Shape (cs.setIfInBounds o (.int k n)) := by
 obtain ⟨R,rfl⟩ := h
 simp only [cfK,List.mem_cons,Prod.mk.injEq,List.not_mem_nil,or_false] at hm
 rcases hm with ⟨rfl,rfl⟩ | ⟨rfl,rfl⟩ | ⟨rfl,rfl⟩ | ⟨rfl,rfl⟩ | ⟨rfl,rfl⟩ | ⟨rfl,rfl⟩ | ⟨rfl,rfl⟩ | ⟨rfl,rfl⟩ | ⟨rfl,rfl⟩ | ⟨rfl,rfl⟩ | ⟨rfl,rfl⟩ | ⟨rfl,rfl⟩ | ⟨rfl,rfl⟩ | ⟨rfl,rfl⟩ | ⟨rfl,rfl⟩ | ⟨rfl,rfl⟩ | ⟨rfl,rfl⟩ | ⟨rfl,rfl⟩ | ⟨rfl,rfl⟩ | ⟨rfl,rfl⟩ | ⟨rfl,rfl⟩ | ⟨rfl,rfl⟩
 ·exact ⟨{ R with f16 := n },rfl⟩
 ·exact ⟨{ R with f17 := n },rfl⟩
 ·exact ⟨{ R with f18 := n },rfl⟩
 ·exact ⟨{ R with f19 := n },rfl⟩
 ·exact ⟨{ R with f20 := n },rfl⟩
 ·exact ⟨{ R with f21 := n },rfl⟩
 ·exact ⟨{ R with f22 := n },rfl⟩
 ·exact ⟨{ R with f23 := n },rfl⟩
 ·exact ⟨{ R with f24 := n },rfl⟩
 ·exact ⟨{ R with f25 := n },rfl⟩
 ·exact ⟨{ R with f26 := n },rfl⟩
 ·exact ⟨{ R with f27 := n },rfl⟩
 ·exact ⟨{ R with f28 := n },rfl⟩
 ·exact ⟨{ R with f29 := n },rfl⟩
 ·exact ⟨{ R with f30 := n },rfl⟩
 ·exact ⟨{ R with f31 := n },rfl⟩
 ·exact ⟨{ R with f32 := n },rfl⟩
 ·exact ⟨{ R with f33 := n },rfl⟩
 ·exact ⟨{ R with f34 := n },rfl⟩
 ·exact ⟨{ R with f35 := n },rfl⟩
 ·exact ⟨{ R with f36 := n },rfl⟩
 ·exact ⟨{ R with f37 := n },rfl⟩
theorem Shape.ty {cs : Array Value} {o : Nat} {k : IntKind} (h : Shape cs) (hm : (o,k) ∈ cfK) : cs[o]? = some (.int k (iAt cs o)) := by
 obtain ⟨R,rfl⟩ := h
 simp only [cfK,List.mem_cons,Prod.mk.injEq,List.not_mem_nil,or_false] at hm
 rcases hm with ⟨rfl,rfl⟩ | ⟨rfl,rfl⟩ | ⟨rfl,rfl⟩ | ⟨rfl,rfl⟩ | ⟨rfl,rfl⟩ | ⟨rfl,rfl⟩ | ⟨rfl,rfl⟩ | ⟨rfl,rfl⟩ | ⟨rfl,rfl⟩ | ⟨rfl,rfl⟩ | ⟨rfl,rfl⟩ | ⟨rfl,rfl⟩ | ⟨rfl,rfl⟩ | ⟨rfl,rfl⟩ | ⟨rfl,rfl⟩ | ⟨rfl,rfl⟩ | ⟨rfl,rfl⟩ | ⟨rfl,rfl⟩ | ⟨rfl,rfl⟩ | ⟨rfl,rfl⟩ | ⟨rfl,rfl⟩ | ⟨rfl,rfl⟩ <;> rfl
theorem Shape.flag {cs : Array Value} {o : Nat} {n : Bool} (h : Shape cs) (hm : o ∈ [38,39,40]) : Shape (cs.setIfInBounds o (.bool n)) := by
 obtain ⟨R,rfl⟩ := h
 simp only [List.mem_cons,List.not_mem_nil,or_false] at hm
 rcases hm with rfl | rfl | rfl
 ·exact ⟨{ R with f38 := n },rfl⟩
 ·exact ⟨{ R with f39 := n },rfl⟩
 ·exact ⟨{ R with f40 := n },rfl⟩
theorem Shape.bty {cs : Array Value} {o : Nat} (h : Shape cs) (hm : o ∈ [38,39,40]) : cs[o]? = some (.bool (bAt cs o)) := by
 obtain ⟨R,rfl⟩ := h
 simp only [List.mem_cons,List.not_mem_nil,or_false] at hm
 rcases hm with rfl | rfl | rfl <;> rfl
theorem Shape.key {cs : Array Value} {l : List UInt8} (h : Shape cs) (hl : l.length = 16) : Shape (setK cs l) := by
 obtain ⟨R,rfl⟩ := h
 obtain ⟨b0,l,rfl⟩ : ∃ b t,l = b :: t := by cases l with | nil => simp at hl | cons b t => exact ⟨b,t,rfl⟩
 obtain ⟨b1,l,rfl⟩ : ∃ b t,l = b :: t := by cases l with | nil => simp at hl | cons b t => exact ⟨b,t,rfl⟩
 obtain ⟨b2,l,rfl⟩ : ∃ b t,l = b :: t := by cases l with | nil => simp at hl | cons b t => exact ⟨b,t,rfl⟩
 obtain ⟨b3,l,rfl⟩ : ∃ b t,l = b :: t := by cases l with | nil => simp at hl | cons b t => exact ⟨b,t,rfl⟩
 obtain ⟨b4,l,rfl⟩ : ∃ b t,l = b :: t := by cases l with | nil => simp at hl | cons b t => exact ⟨b,t,rfl⟩
 obtain ⟨b5,l,rfl⟩ : ∃ b t,l = b :: t := by cases l with | nil => simp at hl | cons b t => exact ⟨b,t,rfl⟩
 obtain ⟨b6,l,rfl⟩ : ∃ b t,l = b :: t := by cases l with | nil => simp at hl | cons b t => exact ⟨b,t,rfl⟩
 obtain ⟨b7,l,rfl⟩ : ∃ b t,l = b :: t := by cases l with | nil => simp at hl | cons b t => exact ⟨b,t,rfl⟩
 obtain ⟨b8,l,rfl⟩ : ∃ b t,l = b :: t := by cases l with | nil => simp at hl | cons b t => exact ⟨b,t,rfl⟩
 obtain ⟨b9,l,rfl⟩ : ∃ b t,l = b :: t := by cases l with | nil => simp at hl | cons b t => exact ⟨b,t,rfl⟩
 obtain ⟨b10,l,rfl⟩ : ∃ b t,l = b :: t := by cases l with | nil => simp at hl | cons b t => exact ⟨b,t,rfl⟩
 obtain ⟨b11,l,rfl⟩ : ∃ b t,l = b :: t := by cases l with | nil => simp at hl | cons b t => exact ⟨b,t,rfl⟩
 obtain ⟨b12,l,rfl⟩ : ∃ b t,l = b :: t := by cases l with | nil => simp at hl | cons b t => exact ⟨b,t,rfl⟩
 obtain ⟨b13,l,rfl⟩ : ∃ b t,l = b :: t := by cases l with | nil => simp at hl | cons b t => exact ⟨b,t,rfl⟩
 obtain ⟨b14,l,rfl⟩ : ∃ b t,l = b :: t := by cases l with | nil => simp at hl | cons b t => exact ⟨b,t,rfl⟩
 obtain ⟨b15,l,rfl⟩ : ∃ b t,l = b :: t := by cases l with | nil => simp at hl | cons b t => exact ⟨b,t,rfl⟩
 obtain rfl : l = [] := by simpa using hl
 exact ⟨{ R with f0 := (b0.toNat : Int),f1 := (b1.toNat : Int),f2 := (b2.toNat : Int),f3 := (b3.toNat : Int),f4 := (b4.toNat : Int),f5 := (b5.toNat : Int),f6 := (b6.toNat : Int),f7 := (b7.toNat : Int),f8 := (b8.toNat : Int),f9 := (b9.toNat : Int),f10 := (b10.toNat : Int),f11 := (b11.toNat : Int),f12 := (b12.toNat : Int),f13 := (b13.toNat : Int),f14 := (b14.toNat : Int),f15 := (b15.toNat : Int) },rfl⟩
end Go.Proofs.YtilenpnpnbdndaaGreatDoor
namespace Go.Proofs.YtilenpnpnbdndaaGreatDoor
open Go Go.Sh
set_option maxRecDepth 100000
theorem hexs_inj : ∀ {a b : List UInt8},hexs a = hexs b -> a = b
 | [],[],_ => rfl
 | [],_ :: _,h => by cases h
 | _ :: _,[],h => by cases h
 | x :: a,y :: b,h => by
  rw [hexs_cons,hexs_cons] at h
  injection h with h1 h
  injection h with h2 h3
  have hx := x.toNat_lt
  have hy := y.toNat_lt
  have e1 := congrArg Fin.val (hxd_inj ⟨x.toNat / 16,by omega⟩ ⟨y.toNat / 16,by omega⟩ h1)
  have e2 := congrArg Fin.val (hxd_inj ⟨x.toNat % 16,by omega⟩ ⟨y.toNat % 16,by omega⟩ h2)
  simp only at e1 e2
  have : x = y := UInt8.toNat.inj (by omega)
  rw [this,hexs_inj h3]
theorem hexW_inj {a b : List UInt8} (h : hexW a = hexW b) : a = b := by
 unfold hexW at h
 have odd : ∀ l : List UInt8,hexs l ≠ [45] := fun l e => by
  have := congrArg List.length e
  rw [hexs_len] at this
  simp at this
  omega
 split at h
 ·split at h
  ·rename_i e1 e2; rw [e1,e2]
  ·exact absurd h.symm (odd _)
 ·split at h
  ·exact absurd h (odd _)
  ·exact hexs_inj h
def GoodC (cs : Array Value) : Prop := okI ⟨cs,[]⟩ (.num 16 .u64 18446744073709551615) /\ okI ⟨cs,[]⟩ (.num 18 .u32 4294967295) /\ okI ⟨cs,[]⟩ (.num 19 .u16 65535) /\ okI ⟨cs,[]⟩ (.num 20 .u16 65535) /\ okI ⟨cs,[]⟩ (.num 23 .u16 65535) /\ okI ⟨cs,[]⟩ (.num 24 .u16 65535) /\ cs.toList.take 16 = u8v (keyAt cs)
def CE (W : World) (M : List HP) (r : Bool) (its : List It) (S : Sc) (ws : List ByteArray) : List PanicEntry -> World -> Prop := fun ch w' => ∃ c,ch = PE c /\ Bad r its S ws c /\ Hs W M w'
structure CI (W : World) (M : List HP) (r : Bool) (lb cb : Nat) (S0 : Sc) (ws0 : List ByteArray) (i : Nat) (S : Sc) (ws : List ByteArray) (w : World) : Prop where
 le : i <= 53
 sts : Sts r (confItems.take i) S0 ws0 S ws
 hs : Hs W (lnP lb r ws :: pt cb (.cells S.cs 50 (0,0)) :: M) w
 fit : Fit r (53 - i) ws
 shape : Shape S.cs
 good : r = false -> GoodC S0.cs
theorem take_at {l : List It} {i : Nat} {it : It} (h : l[i]? = some it) : l = l.take i ++ it :: l.drop (i + 1) := by
 obtain ⟨h1,h2⟩ := List.getElem?_eq_some_iff.1 h
 rw [← h2]
 simp
theorem take_snoc {l : List It} {i : Nat} {it : It} (h : l[i]? = some it) : l.take (i + 1) = l.take i ++ [it] := by
 rw [List.take_add_one,h]
 rfl
section
variable {W w : World} {M : List HP} {lb cb i : Nat} {r : Bool} {S0 S : Sc} {ws0 ws : List ByteArray}
theorem CI.err (I : CI W M r lb cb S0 ws0 i S ws w) {it : It} {c : Int} (h : confItems[i]? = some it) (hn : Nop r it S ws c) : Bad r confItems S0 ws0 c := I.sts.no _ hn (take_at h)
theorem CI.next (I : CI W M r lb cb S0 ws0 i S ws w) {it : It} {S' : Sc} {ws' : List ByteArray} {w' : World} (h : confItems[i]? = some it) (hs : Stp r it S ws S' ws') (hsh : Shape S'.cs) (hw : Hs W (lnP lb r ws' :: pt cb (.cells S'.cs 50 (0,0)) :: M) w') : CI W M r lb cb S0 ws0 (i + 1) S' ws' w' := by
 have hi : i < 53 := (List.getElem?_eq_some_iff.1 h).1
 refine ⟨by omega,?_,hw,?_,hsh,I.good⟩
 ·rw [take_snoc h]
  exact I.sts.snoc hs
 ·have : 53 - i = 53 - (i + 1) + 1 := by omega
  have hf := I.fit
  rw [this] at hf
  exact hf.step hs
theorem CI.gd (I : CI W M r lb cb S0 ws0 i S ws w) (hr : r = false) : GoodC S.cs := by
 subst hr
 rw [I.sts.w.1]
 exact I.good rfl
theorem CI.one (I : CI W M r lb cb S0 ws0 i S ws w) (hi : i < 53) : r = false -> ws.length <= 1000 := by
 have hf := I.fit
 have : 53 - i = (53 - (i + 1)) + 1 := by omega
 rw [this] at hf
 exact hf.one
theorem CI.word (I : CI W M r lb cb S0 ws0 i S ws w) {s : ByteArray} (h : confItems[i]? = some (.lit s)) : Calls Tryz.prog 50 #[.pointer (some ⟨lb,0,none⟩),.string s] w
  (rtp (fun v w' => v = .tuple #[] /\ ∃ S' ws',CI W M r lb cb S0 ws0 (i + 1) S' ws' w') (CE W M r confItems S0 ws0)) := by
 have hi : i < 53 := (List.getElem?_eq_some_iff.1 h).1
 refine (c50 (S := S) I.hs (I.one hi)).mono fun e w' q => ?_
 rcases q with ⟨v,he,rfl,ws',hs,h2⟩ | ⟨ch,he,c,rfl,hn,hs⟩
 ·exact .inl ⟨_,he,rfl,S,ws',I.next h hs I.shape h2⟩
 ·exact .inr ⟨_,he,c,rfl,I.err h hn,hs.drop⟩
theorem CI.item (I : CI W M r lb cb S0 ws0 i S ws w) {it : It} (h : confItems[i]? = some it) (hsh : ∀ S',Chg S S' it -> Shape S'.cs) {f : Nat} {xs : Array Value}
  (hc : Calls Tryz.prog f xs w (rtp (IP W M r lb cb 50 it S ws) (IE W M r it S ws))) : Calls Tryz.prog f xs w (rtp (fun v w' => v = .tuple #[] /\ ∃ S' ws',CI W M r lb cb S0 ws0 (i + 1) S' ws' w') (CE W M r confItems S0 ws0)) := by
 refine hc.mono fun e w' q => ?_
 rcases q with ⟨v,he,rfl,S',ws',hs,h2⟩ | ⟨ch,he,c,rfl,hn,hs⟩
 ·exact .inl ⟨_,he,rfl,S',ws',I.next h hs (hsh S' hs.1) h2⟩
 ·exact .inr ⟨_,he,c,rfl,I.err h hn,hs⟩
theorem CI.num (I : CI W M r lb cb S0 ws0 i S ws w) {o m : Nat} {k : IntKind} (hm : (o,k) ∈ cfK) : ∀ S',Chg S S' (.num o k m) -> Shape S'.cs := by
 rintro S' ⟨n,rfl⟩
 exact I.shape.num hm
theorem CI.flag (I : CI W M r lb cb S0 ws0 i S ws w) {o : Nat} {a b : ByteArray} (hm : o ∈ [38,39,40]) : ∀ S',Chg S S' (.flag o a b) -> Shape S'.cs := by
 rintro S' ⟨n,rfl⟩
 exact I.shape.flag hm
theorem shape_named {ns : List ByteArray} : ∀ {os : List Nat} {S S' : Sc} {ws ws' : List ByteArray},(∀ o ∈ os,(o,IntKind.i64) ∈ cfK) -> Sts r (namedI ns os) S ws S' ws' -> Shape S.cs -> Shape S'.cs := by
 induction ns with
 | nil => rintro os S S' ws ws' _ ⟨rfl,_⟩ h; exact h
 | cons n ns ih =>
  intro os S S' ws ws' ho hs h
  cases os with
  | nil => obtain ⟨rfl,_⟩ := hs; exact h
  | cons o os =>
   obtain ⟨S1,ws1,h1,S2,ws2,h2,h3⟩ := hs
   have e1 : S1 = S := h1.1
   subst e1
   refine ih (fun o' ho' => ho o' (by simp [ho'])) h3 ?_
   obtain ⟨x,rfl⟩ := h2.1
   exact h.num (ho o (by simp))
theorem CI.named (I : CI W M r lb cb S0 ws0 i S ws w) {ns : List ByteArray} {os : List Nat} {nb xb n : Nat} (hT : TB W) (hn : ns.length = n) (ho : os.length = n) (hN : n <= 100) {w2 : World}
  (h : Hs W (lnP lb r ws :: pt cb (.cells S.cs 50 (0,0)) :: pt nb (.cells (nmV ns) 9 (0,0)) :: pt xb (.cells (ptV cb os) 129 (0,0)) :: M) w2)
  (hk : ∀ o ∈ os,(o,IntKind.i64) ∈ cfK) (hi : i + 2 * n <= 53) (he : (confItems.drop i).take (2 * n) = namedI ns os) :
  Calls Tryz.prog 59 #[.pointer (some ⟨lb,0,none⟩),.slice (some ⟨nb,0,none⟩) n n,.slice (some ⟨xb,0,none⟩) n n] w2
   (rtp (fun v w' => v = .tuple #[] /\ ∃ S' ws',CI W M r lb cb S0 ws0 (i + 2 * n) S' ws' w') (CE W M r confItems S0 ws0)) := by
 refine (c59 hT hn ho hN h (fun o ho => I.shape.ty (hk o ho)) (I.fit.less (by omega))).mono fun e w' q => ?_
 rcases q with ⟨v,he',rfl,S',ws',hs,h2⟩ | ⟨ch,he',c,rfl,hb,hs⟩
 ·refine .inl ⟨_,he',rfl,S',ws',hi,?_,h2,?_,shape_named hk hs I.shape,I.good⟩
  ·rw [List.take_add,he]
   exact I.sts.app hs
  ·have hf := I.fit
   have e1 : 53 - i = 53 - (i + 2 * n) + (namedI ns os).length := by rw [namedI_len ns os (by omega),hn]; omega
   rw [e1] at hf
   exact hf.steps hs
 ·refine .inr ⟨_,he',c,rfl,?_,hs⟩
  refine Bad.wide (l := namedI ns os) (confItems.take i) ((confItems.drop i).drop (2 * n)) I.sts hb ?_
  rw [← he,List.take_append_drop,List.take_append_drop]
theorem sl16 {w : World} {b : Nat} : Sem.run Tryz.prog (Instr.sliceAt 41 (.pointer (some (Addr.mk b 0 none))) none none none) w = .ok (.slice (some ⟨b,0,none⟩) 16 16) w := by
 have hal : Tryz.prog.arrayLen 41 = 16 := by simp [Program.arrayLen,Tryz.underlying41]
 have := run_sliceAt_array_all (P := Tryz.prog) w 41 ⟨b,0,none⟩ (by simp [Program.arrayLen,Program.elem,Tryz.underlying41])
 refine this.trans ?_
 simp [hal,Program.elem,Tryz.underlying41,slicedAt,Tryz.sizeOf5]
theorem keyAt_len (cs : Array Value) : (keyAt cs).length = 16 := by simp [keyAt]
theorem setK_self {cs : Array Value} (h : cs.toList.take 16 = u8v (keyAt cs)) : setK cs (keyAt cs) = cs := by
 unfold setK
 rw [← h,List.take_append_drop]
theorem copy16 {b : Nat} {cs : Array Value} {T : TypeId} {L : List HP} {l : List UInt8} {a : Option Addr} {c : Nat} {j : Nat} (h : Hs W L w) (hj : L[j]? = some (pt b (.cells cs T (0,0)))) (hl : l.length = 16) (hr : Rd w a (u8v l)) (hs : 16 <= cs.size) {K : World -> Prop}
  (hk : ∀ w',Hs W (L.set j (pt b (.cells (setK cs l) T (0,0)))) w' -> K w') :
  ∃ n w',Sem.run Tryz.prog (Builtin.copy_ #[25,25] 3 #[.slice (some ⟨b,0,none⟩) 16 16,.slice a 16 c]) w = .ok (.int .i64 n) w' /\ K w' := by
 obtain ⟨ad,rfl⟩ := hr.some (by simp [u8v,hl])
 have hrun := run_copy_row (P := Tryz.prog) w 25 25 3 5 b 0 16 16 ad 16 c cs T (u8v l) Tryz.underlying25 (by rw [E25.hi]; simp [E25.hsize]) (h.at j hj) (by simp [u8v,hl]) (fun i v hi => hr.at hi) (by simp [u8v,hl]; exact hs) (u8v_one l)
 rw [setRow_sb (h.at j hj)] at hrun
 refine ⟨_,_,hrun,hk _ ?_⟩
 have := h.sb j hj (.cells (setK cs l) T (0,0))
 have e : (cs.toList.take 0 ++ u8v l ++ cs.toList.drop (0 + (u8v l).length)).toArray = setK cs l := by simp [setK,u8v,hl]
 rw [e]
 exact this
end
end Go.Proofs.YtilenpnpnbdndaaGreatDoor
