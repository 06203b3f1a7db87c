/- Own text: part of the shallow reading of the code and of the contracts that are proved over it. -/
import Derived.Test.YtilenpnpnbdndaaGreatDoorSrP1
namespace Go.Proofs.YtilenpnpnbdndaaGreatDoor
open Go Go.Sh
set_option maxRecDepth 100000
attribute [local instance] Esc.none
noncomputable def E59i : TypeInfo := (Tryz.prog.info? 27).getD default
noncomputable def E59z : Value := E59i.zero.getD default
theorem E59 : ElemT Tryz.prog 59 27 12 112 E59z E59i := ⟨by kernel_rfl,by kernel_rfl,by kernel_rfl,by kernel_rfl,by kernel_rfl,by kernel_rfl,by decide⟩
theorem stcL_shift {b : Nat} (o1 : Nat) : ∀ (l : List Value) (o : Nat) (w : World) (K : World -> Prop),Go.Sh.stcL ⟨b,0,none⟩ (o1 + o) l w K -> Go.Sh.stcL ⟨b,o1,none⟩ o l w K
 | [],_,_,_,h => h
 | v :: l,o,w,K,h => by
  unfold Go.Sh.stcL at h ⊢
  rw [add_mk] at h ⊢
  rw [Nat.zero_add] at h
  refine Go.Sh.stc_mono ?_ h
  exact fun w' h' => stcL_shift o1 l (o + 1) w' K (by rw [← Nat.add_assoc]; exact h')
theorem setL_mid : ∀ (l : List Value) (cs : Array Value) (o : Nat),l.length + o <= cs.size -> (l.zipIdx o).foldl (fun c (p : Value × Nat) => c.setIfInBounds p.2 p.1) cs = (cs.toList.take o ++ (l ++ cs.toList.drop (o + l.length))).toArray
 | [],cs,o,h => by
  apply Array.toList_inj.1
  simp
 | v :: l,cs,o,h => by
  simp only [List.zipIdx_cons,List.foldl_cons]
  rw [setL_mid l _ (o + 1) (by simp at h ⊢; omega)]
  apply Array.toList_inj.1
  simp only [Array.toList_setIfInBounds]
  rw [List.take_add_one,List.take_set_of_le (Nat.le_refl _),List.getElem?_set,if_pos rfl,if_pos (by simp at h ⊢; omega),List.append_assoc,List.drop_set_of_lt (by omega)]
  simp [Nat.add_assoc,Nat.add_comm 1]
theorem mk60_t (p q : R49) (a : Option Addr) (n c : Nat) : (mk60 p q a n c).c.toList = p.l ++ (q.l ++ [.slice a n c]) := rfl
section
variable {W w : World} {M : List HP} {p q : R49} {a : Option Addr} {c n : Nat} {ds : List Dd}
theorem put_end {b : Nat} {i : Nat} {R : R49} {K : World -> Prop} (hi : i < 2) {L : List HP} {k : Nat} (h : Hs W L w) (hk : L[k]? = some (pt b (.cells (mk60 p q a n c).c 61 (0,0))))
  (hK : ∀ w',Hs W (L.set k (pt b (.cells (mk60 (if i = 0 then R else p) (if i = 0 then q else R) a n c).c 61 (0,0)))) w' -> K w') : Go.Sh.stcL ⟨b,i * 41,none⟩ 0 R.l w K := by
 refine stcL_shift (i * 41) R.l 0 w K ?_
 rw [Nat.add_zero]
 refine Hs.stcs R.l k (i * 41) h hk (by rw [R49.l_len,R60.c_size]; omega) fun w' h' => hK w' ?_
 have e : (R.l.zipIdx (i * 41)).foldl (fun c (p : Value × Nat) => c.setIfInBounds p.2 p.1) (mk60 p q a n c).c = (mk60 (if i = 0 then R else p) (if i = 0 then q else R) a n c).c := by
  rw [setL_mid _ _ _ (by rw [R49.l_len,R60.c_size]; omega)]
  apply Array.toList_inj.1
  rw [mk60_t,mk60_t,R49.l_len]
  have hp := R49.l_len p
  have hq := R49.l_len q
  rcases (show i = 0 \/ i = 1 by omega) with rfl | rfl
  ·rw [if_pos rfl,if_pos rfl,Nat.zero_mul,List.take_zero,List.nil_append,Nat.zero_add,List.drop_left' hp]
  ·rw [if_neg (by decide),if_neg (by decide),Nat.one_mul,List.take_left' hp,← List.append_assoc p.l q.l,List.drop_left' (by rw [List.length_append,hp,hq])]
 rw [e] at h'
 exact h'
abbrev zero60 : Array Value := (mk60 R49.zz R49.zz none 0 0).c
abbrev rdL (W : World) (b2 b4 b6 b14 b16 i : Nat) (p q : R49) (a : Option Addr) (c : Nat) (ds : List Dd) (M : List HP) : List HP :=
 pt b16 (.cells #[.int .i64 (i : Int)] 3 (0,0)) :: pt b14 (.cells (mk60 p q a ds.length c).c 61 (0,0)) :: slP 27 12 a ds.length c (ds.flatMap fun d => d.1.l) :: pt b6 (.cells #[.int .i64 0] 28 (0,0)) :: pt b4 (.cells #[.int .i64 0] 3 (0,0)) :: pt b2 (.cells zero60 61 (0,0)) :: (ds.reverse.map (fun d => dtP W d.1.c d.2) ++ M)
abbrev rtL (b2 b4 b6 i : Nat) (M : List HP) : List HP :=
 pt b6 (.cells #[.int .i64 250] 28 (0,0)) :: pt b4 (.cells #[.int .i64 (i : Int)] 3 (0,0)) :: pt b2 (.cells zero60 61 (0,0)) :: M
variable {b2 b4 b6 b14 b16 i : Nat}
theorem F20_1_go {Kn : Value -> World -> Prop} {Kr : World -> Prop} {bb : Bool} (h : Hs W (rdL W b2 b4 b6 b14 b16 i p q a c ds M) w)
  (hr : bb = true -> ∀ w',Hs W (rtL b2 b4 b6 i M) w' -> Kr w') (hn : bb = false -> Kn (.pointer (some ⟨b16,0,none⟩)) w) :
  F20_1 Kn Kr (.pointer (some ⟨b2,0,none⟩)) (.pointer (some ⟨b4,0,none⟩)) (.pointer (some ⟨b6,0,none⟩)) (.pointer (some ⟨b16,0,none⟩)) (.bool bb) w := by
 unfold F20_1
 simp only [rdA_mk,rdB_mk]
 cases bb with
 | false => rw [br_false]; exact hn rfl
 | true =>
  rw [br_true]
  refine h.drw fun w6 h6 => ⟨Go.Sh.lone w6 b16 _,Go.Sh.Pres.lone (h6.at 0 rfl),?_⟩
  refine ldI_c (n := (i : Int)) ?_ ?_
  ·have := Go.Sh.lone_at w6 b16 (.cells #[.int .i64 (i : Int)] 3 (0,0))
   rw [cell_at this]
   rfl
  ·refine h6.stcL 5 rfl (by rfl) fun w9 h9 => ?_
   have h9 : Hs W (rdL W b2 b4 b6 b14 b16 i p q a c ds M) w9 := h9
   refine ⟨Go.Sh.Pres.lone (h9.at 0 rfl),?_⟩
   refine h9.stc 4 rfl (by simp) fun w10 h10 => ?_
   refine h10.stc 3 rfl (by simp) fun w11 h11 => ?_
   have h11 : Hs W (pt b16 (.cells #[.int .i64 (i : Int)] 3 (0,0)) :: pt b14 (.cells (mk60 p q a ds.length c).c 61 (0,0)) :: slP 27 12 a ds.length c (ds.flatMap fun d => d.1.l) :: pt b6 (.cells #[.int .i64 250] 28 (0,0)) :: pt b4 (.cells #[.int .i64 (i : Int)] 3 (0,0)) :: pt b2 (.cells zero60 61 (0,0)) :: (ds.reverse.map (fun d => dtP W d.1.c d.2) ++ M)) w11 := h11
   refine hr rfl w11 ?_
   have h12 := h11.drop.drop.drop
   have h13 : Hs W (ds.reverse.map (fun d => dtP W d.1.c d.2) ++ (pt b6 (.cells #[.int .i64 250] 28 (0,0)) :: pt b4 (.cells #[.int .i64 (i : Int)] 3 (0,0)) :: pt b2 (.cells zero60 61 (0,0)) :: M)) w11 :=
    h12.perm (by
     have := (List.perm_append_comm (l₁ := [pt b6 (.cells #[.int .i64 250] 28 (0,0)),pt b4 (.cells #[.int .i64 (i : Int)] 3 (0,0)),pt b2 (.cells zero60 61 (0,0))]) (l₂ := ds.reverse.map (fun d => dtP W d.1.c d.2))).append_right M
     simpa using this)
   exact h13.dropL
theorem F20_2_go {Kn : World -> Prop} {Kr : World -> Prop} {ok : Bool} {e : Int} (hi : i < 4611686018427387904) (h : Hs W (rdL W b2 b4 b6 b14 b16 i p q a c ds M) w)
  (hn : ok = true -> e = 0 -> ds.length <= 65536 -> ∀ w',Hs W (rdL W b2 b4 b6 b14 b16 (i + 1) p q a c ds M) w' -> Kn w')
  (hr : (ok = true -> e = 0 -> ¬ ds.length <= 65536) -> ∀ w',Hs W (rtL b2 b4 b6 i M) w' -> Kr w') :
  F20_2 Kn Kr (.pointer (some ⟨b2,0,none⟩)) (.pointer (some ⟨b4,0,none⟩)) (.pointer (some ⟨b6,0,none⟩)) (.pointer (some ⟨b14,0,none⟩)) (.pointer (some ⟨b16,0,none⟩)) (.bool ok) (.int .i64 e) w := by
 unfold F20_2
 simp only [rdA_mk,rdB_mk,rdI_mk]
 cases ok with
 | false =>
  rw [Bool.not_false,br_true]
  refine F20_1_go h (fun _ w' h' => ?_) fun h => by cases h
  intro _
  exact hr (fun h => by cases h) w' h'
 | true =>
  rw [Bool.not_true,br_false]
  by_cases he : e = 0
  ·subst he
   have e0 : ((0 : Int) != 0) = false := rfl
   rw [e0,br_false]
   refine ldC_c (at_d (h.atL 1 rfl)) ?_
   refine F20_1_go h (fun hb w' h' => ?_) fun hb => ?_
   ·intro _
    exact hr (fun _ _ => by have := of_decide_eq_true hb; omega) w' h'
   ·intro _
    simp only [rdA_mk]
    refine h.ldI 0 rfl rfl ?_
    refine h.stc 0 rfl (by simp) fun w13 h13 => ?_
    have e3 : IntKind.wrap .i64 ((i : Int) + 1) = ((i + 1 : Nat) : Int) := by rw [wrap_i64 (by omega) (by omega)]; simp
    rw [e3] at h13
    exact hn rfl rfl (by have := of_decide_eq_false hb; omega) w13 h13
  ·have e0 : (e != 0) = true := by simpa using he
   rw [e0,br_true]
   refine F20_1_go h (fun _ w' h' => ?_) fun h => by cases h
   intro _
   exact hr (fun _ h => absurd h he) w' h'
theorem body_go {Kn : World -> Prop} {Kx : Code -> World -> Prop} {ok : Bool} {piece : ByteArray} {u : List UInt8} {w0 : World} (hT : TB W) (hu : u.length <= 8000000)
  (hcut : ∀ w,Calls Tryz.prog 46 #[.string piece,.string ⟨#[10]⟩] w (rt (KR (.tuple #[.string (bs u),.bool ok]) w)))
  (hi : i < 4611686018427387904) (hl : ds.length <= 65536) (h : Hs W (rdL W b2 b4 b6 b14 b16 i p q a c ds M) w)
  (hn1 : i < 2 -> ok = true -> ∀ R,IsConf (bs u) R -> ∀ w',Hs W (rdL W b2 b4 b6 b14 b16 (i + 1) (if i = 0 then R else p) (if i = 0 then q else R) a c ds M) w' -> Kn w')
  (hn2 : 2 <= i -> ok = true -> ds.length + 1 <= 65536 -> ∀ (d : Dd) (a' : Option Addr) (c' : Nat),IsDeed (bs u) d.1 d.2 -> ∀ w',Hs W (rdL W b2 b4 b6 b14 b16 (i + 1) p q a' c' (ds ++ [d]) M) w' -> Kn w')
  (hr : (ok = true -> i < 2 -> ¬ ∃ R,IsConf (bs u) R) -> (ok = true -> 2 <= i -> ds.length + 1 <= 65536 -> ¬ ∃ R d,IsDeed (bs u) R d) -> ∀ w',Hs W (rtL b2 b4 b6 i M) w' -> Kx .ret w') :
  F20_3r Kn Kx (.pointer (some ⟨b2,0,none⟩)) (.pointer (some ⟨b4,0,none⟩)) (.pointer (some ⟨b6,0,none⟩)) (.pointer (some ⟨b14,0,none⟩)) (.pointer (some ⟨b16,0,none⟩)) (.string piece) w0 w := by
 unfold F20_3r
 simp only [rdA_mk,rdS_mk]
 refine ⟨trivial,?_⟩
 refine clr (hcut w) ⟨_,_,rfl,?_⟩
 refine h.ldI 0 rfl rfl ?_
 have hus : (bs u).size <= 8000000 := hu
 refine br_dec.2 ⟨fun hi2 => ?_,fun hi2 => ?_⟩
 ·refine h.drw fun w12 h12 => ⟨w12,Pres.of_Same (Fr.refl w12),?_⟩
  refine h12.ldI 0 rfl rfl ?_
  refine cl (c16q (hT.same h12.old) (Hs.start w12) hus) ?_
  rintro _ w15 ⟨R,N,rfl,hA,h15⟩
  refine exR49_of R ⟨_,rfl,Pres.of_Same h15.old,?_⟩
  have h16 := h12.same h15.old
  refine ⟨⟨by omega,by omega⟩,?_⟩
  rw [Int.toNat_natCast]
  have ea : ((Addr.mk b14 0 none).add 0).add (i * 41) = ⟨b14,i * 41,none⟩ := by simp [add_mk]
  rw [ea]
  refine put_end (by omega) h16 (k := 1) rfl fun w20 h20 => ?_
  have h20 : Hs W (rdL W b2 b4 b6 b14 b16 i (if i = 0 then R else p) (if i = 0 then q else R) a c ds M) w20 := h20
  refine F20_2_go hi h20 (fun ho he _ w' h' => ?_) (fun hno w' h' => ?_)
  ·intro _
   rcases hA with ⟨hC,_⟩ | ⟨_,_,hN⟩
   ·exact hn1 (by omega) ho R hC w' h'
   ·rw [hN] at he; cases he
  ·intro _
   refine hr (fun ho _ => ?_) (fun _ h2 => by omega) w' h'
   rcases hA with ⟨hC,hN⟩ | ⟨hno2,_⟩
   ·exact absurd hl (hno ho hN)
   ·exact hno2
 ·refine h.alc fun b27 w28 h28 => ?_
  have h28 : Hs W (pt b27 (.cells R26.zz.c 27 (0,0)) :: rdL W b2 b4 b6 b14 b16 i p q a c ds M) w28 := h28
  refine cl (c10q hT h28 hus) ?_
  rintro _ w29 ⟨R,dat,N,rfl,hD,h29⟩
  refine exR26_of R ⟨_,rfl,?_⟩
  refine h29.stcL 1 rfl (by rfl) fun w33 h33 => ?_
  have h33 : Hs W (dtP W R.c dat :: pt b27 (.cells R.c 27 (0,0)) :: rdL W b2 b4 b6 b14 b16 i p q a c ds M) w33 := h33
  refine ldC_c (at_d (h33.atL 3 rfl)) ?_
  refine ldR26_of (s := R) (h33.atL 1 rfl) ?_
  unfold alc
  refine h33.push E59 4 rfl (news := R.c) rfl (by intro u hu; simp [R26.c] at hu; rcases hu with rfl | rfl | rfl | rfl | rfl | rfl | rfl | rfl | rfl | rfl | rfl | rfl <;> rfl) (by omega) (by omega) fun a' c' w39 h39 => ?_
  have h39 : Hs W (dtP W R.c dat :: pt b27 (.cells R.c 27 (0,0)) :: pt b16 (.cells #[.int .i64 (i : Int)] 3 (0,0)) :: pt b14 (.cells (mk60 p q a ds.length c).c 61 (0,0)) :: slP 27 12 a' (ds.length + 1) c' (ds.flatMap (fun d => d.1.l) ++ R.l) :: pt b6 (.cells #[.int .i64 0] 28 (0,0)) :: pt b4 (.cells #[.int .i64 0] 3 (0,0)) :: pt b2 (.cells zero60 61 (0,0)) :: (ds.reverse.map (fun d => dtP W d.1.c d.2) ++ M)) w39 := h39
  refine h39.stc 3 rfl (by rw [R60.c_size]; show 0 + 82 < 83; omega) fun w40 h40 => ?_
  have h41 : Hs W (dtP W R.c dat :: pt b27 (.cells R.c 27 (0,0)) :: pt b16 (.cells #[.int .i64 (i : Int)] 3 (0,0)) :: pt b14 (.cells (mk60 p q a' (ds.length + 1) c').c 61 (0,0)) :: slP 27 12 a' (ds.length + 1) c' (ds.flatMap (fun d => d.1.l) ++ R.l) :: pt b6 (.cells #[.int .i64 0] 28 (0,0)) :: pt b4 (.cells #[.int .i64 0] 3 (0,0)) :: pt b2 (.cells zero60 61 (0,0)) :: (ds.reverse.map (fun d => dtP W d.1.c d.2) ++ M)) w40 := h40
  have el : (ds ++ [(R,dat)]).length = ds.length + 1 := by simp
  have ef : (ds ++ [(R,dat)]).flatMap (fun d => d.1.l) = ds.flatMap (fun d => d.1.l) ++ R.l := by simp
  have h42 : Hs W (rdL W b2 b4 b6 b14 b16 i p q a' c' (ds ++ [(R,dat)]) M) w40 := by
   have h5 := h41.erase 1
   have h6 := Hs.behind (L := [pt b16 (.cells #[.int .i64 (i : Int)] 3 (0,0)),pt b14 (.cells (mk60 p q a' (ds.length + 1) c').c 61 (0,0)),slP 27 12 a' (ds.length + 1) c' (ds.flatMap (fun d => d.1.l) ++ R.l),pt b6 (.cells #[.int .i64 0] 28 (0,0)),pt b4 (.cells #[.int .i64 0] 3 (0,0)),pt b2 (.cells zero60 61 (0,0))]) h5
   have er : (ds ++ [(R,dat)]).reverse = (R,dat) :: ds.reverse := by simp
   show Hs W (pt b16 _ :: pt b14 (.cells (mk60 p q a' (ds ++ [(R,dat)]).length c').c 61 (0,0)) :: slP 27 12 a' (ds ++ [(R,dat)]).length c' ((ds ++ [(R,dat)]).flatMap fun d => d.1.l) :: _ :: _ :: _ :: ((ds ++ [(R,dat)]).reverse.map (fun d => dtP W d.1.c d.2) ++ M)) w40
   rw [el,ef,er]
   exact h6
  refine F20_2_go hi h42 (fun ho he hle w' h' => ?_) (fun hno w' h' => ?_)
  ·intro _
   rcases hD with ⟨hC,_⟩ | ⟨_,_,_,hN⟩
   ·exact hn2 (by omega) ho (by rw [el] at hle; exact hle) (R,dat) a' c' hC w' h'
   ·rw [hN] at he; cases he
  ·intro _
   refine hr (fun _ h2 => by omega) (fun ho _ hle => ?_) w' h'
   rcases hD with ⟨hC,hN⟩ | ⟨hno2,_⟩
   ·exact absurd (by rw [el]; exact hle) (hno ho hN)
   ·exact hno2
end
end Go.Proofs.YtilenpnpnbdndaaGreatDoor
namespace Go.Proofs.YtilenpnpnbdndaaGreatDoor
open Go Go.Sh
set_option maxRecDepth 100000
attribute [local instance] Esc.none
def OkAt (ls : List (List UInt8)) (i : Nat) : Prop := ∃ u,ls[i]? = some u /\ ((i < 2 /\ ∃ R,IsConf (bs u) R) \/ (2 <= i /\ i - 2 + 1 <= 65536 /\ ∃ R d,IsDeed (bs u) R d))
structure IsScr (ls : List (List UInt8)) (n : Nat) (p q : R49) (ds : List Dd) : Prop where
 p : 0 < n -> ∃ u,ls[0]? = some u /\ IsConf (bs u) p
 q : 1 < n -> ∃ u,ls[1]? = some u /\ IsConf (bs u) q
 len : ds.length = n - 2
 ds : ∀ (k : Nat) d,ds[k]? = some d -> ∃ u,ls[k + 2]? = some u /\ IsDeed (bs u) d.1 d.2
def ReadB (ls : List (List UInt8)) (tl : List UInt8) (p q : R49) (ds : List Dd) (I E : Int) : Prop :=
 (tl = [] /\ 2 <= ls.length /\ (∀ i,i < ls.length -> OkAt ls i) /\ IsScr ls ls.length p q ds /\ I = 0 /\ E = 0) \/
 (∃ i : Nat,(∀ j,j < i -> OkAt ls j) /\ ((i < ls.length /\ ¬ OkAt ls i) \/ (i = ls.length /\ (tl ≠ [] \/ i < 2))) /\ p = R49.zz /\ q = R49.zz /\ ds = [] /\ I = (i : Int) /\ E = 250)
def ReadA (s : ByteArray) (p q : R49) (ds : List Dd) (I E : Int) : Prop :=
 (4194304 < s.size /\ p = R49.zz /\ q = R49.zz /\ ds = [] /\ I = 0 /\ E = 2) \/ (s.size <= 4194304 /\ ReadB (cutL (bl s)).1 (cutL (bl s)).2 p q ds I E)
theorem cutL_len : ∀ l : List UInt8,(∀ u ∈ (cutL l).1,u.length <= l.length) /\ (cutL l).2.length <= l.length /\ (cutL l).1.length <= l.length
 | [] => by simp [cutL]
 | c :: l => by
  obtain ⟨h1,h2,h3⟩ := cutL_len l
  unfold cutL
  split
  ·refine ⟨fun u hu => ?_,by simp; omega,by simp; omega⟩
   rcases List.mem_cons.1 hu with rfl | hu
   ·simp
   ·have := h1 u hu; simp; omega
  ·split
   ·rename_i t e
    rw [e] at h2
    exact ⟨by simp,by simp at h2 ⊢; omega,by simp⟩
   ·rename_i x xs t e
    rw [e] at h1 h2 h3
    refine ⟨fun u hu => ?_,by simp at h2 ⊢; omega,by simp at h3 ⊢; omega⟩
    rcases List.mem_cons.1 hu with rfl | hu
    ·have := h1 x (by simp); simp; omega
    ·have := h1 u (by simp [hu]); simp; omega
theorem OkAt.conf {ls : List (List UInt8)} {i : Nat} {u : List UInt8} (hu : ls[i]? = some u) (hi : i < 2) : OkAt ls i ↔ ∃ R,IsConf (bs u) R :=
 ⟨fun ⟨v,hv,h⟩ => by
  rw [hu] at hv
  cases hv
  rcases h with ⟨_,h⟩ | ⟨h,_⟩
  ·exact h
  ·omega,fun h => ⟨u,hu,.inl ⟨hi,h⟩⟩⟩
theorem OkAt.deed {ls : List (List UInt8)} {i : Nat} {u : List UInt8} (hu : ls[i]? = some u) (hi : 2 <= i) : OkAt ls i ↔ (i - 2 + 1 <= 65536 /\ ∃ R d,IsDeed (bs u) R d) :=
 ⟨fun ⟨v,hv,h⟩ => by
  rw [hu] at hv
  cases hv
  rcases h with ⟨h,_⟩ | ⟨_,h⟩
  ·omega
  ·exact h,fun h => ⟨u,hu,.inr ⟨hi,h⟩⟩⟩
section
variable {W w : World} {M : List HP} {p q : R49} {a : Option Addr} {c : Nat} {ds : List Dd} {b2 b4 b6 b14 b16 i : Nat} {x y z : HP}
theorem rd_in (h : Hs W (x :: y :: z :: rdL W b2 b4 b6 b14 b16 i p q a c ds M) w) : Hs W (rdL W b2 b4 b6 b14 b16 i p q a c ds (x :: y :: z :: M)) w := by
 have e : (x :: y :: z :: rdL W b2 b4 b6 b14 b16 i p q a c ds M).Perm (rdL W b2 b4 b6 b14 b16 i p q a c ds (x :: y :: z :: M)) := by
  have := (List.perm_append_comm (l₁ := [x,y,z]) (l₂ := pt b16 (.cells #[.int .i64 (i : Int)] 3 (0,0)) :: pt b14 (.cells (mk60 p q a ds.length c).c 61 (0,0)) :: slP 27 12 a ds.length c (ds.flatMap fun d => d.1.l) :: pt b6 (.cells #[.int .i64 0] 28 (0,0)) :: pt b4 (.cells #[.int .i64 0] 3 (0,0)) :: pt b2 (.cells zero60 61 (0,0)) :: ds.reverse.map (fun d => dtP W d.1.c d.2))).append_right M
  simp only [List.append_assoc,List.cons_append,List.nil_append] at this
  exact this
 exact h.perm e
theorem rd_out (h : Hs W (rdL W b2 b4 b6 b14 b16 i p q a c ds (x :: y :: z :: M)) w) : Hs W (x :: y :: z :: rdL W b2 b4 b6 b14 b16 i p q a c ds M) w := by
 have e : (x :: y :: z :: rdL W b2 b4 b6 b14 b16 i p q a c ds M).Perm (rdL W b2 b4 b6 b14 b16 i p q a c ds (x :: y :: z :: M)) := by
  have := (List.perm_append_comm (l₁ := [x,y,z]) (l₂ := pt b16 (.cells #[.int .i64 (i : Int)] 3 (0,0)) :: pt b14 (.cells (mk60 p q a ds.length c).c 61 (0,0)) :: slP 27 12 a ds.length c (ds.flatMap fun d => d.1.l) :: pt b6 (.cells #[.int .i64 0] 28 (0,0)) :: pt b4 (.cells #[.int .i64 0] 3 (0,0)) :: pt b2 (.cells zero60 61 (0,0)) :: ds.reverse.map (fun d => dtP W d.1.c d.2))).append_right M
  simp only [List.append_assoc,List.cons_append,List.nil_append] at this
  exact this
 exact h.perm e.symm
theorem rt_out (h : Hs W (rtL b2 b4 b6 i (x :: y :: z :: M)) w) : Hs W (x :: y :: z :: rtL b2 b4 b6 i M) w := by
 have e : (x :: y :: z :: rtL b2 b4 b6 i M).Perm (rtL b2 b4 b6 i (x :: y :: z :: M)) := by
  have := (List.perm_append_comm (l₁ := [x,y,z]) (l₂ := [pt b6 (.cells #[.int .i64 250] 28 (0,0)),pt b4 (.cells #[.int .i64 (i : Int)] 3 (0,0)),pt b2 (.cells zero60 61 (0,0))])).append_right M
  simp only [List.cons_append,List.nil_append] at this
  exact this
 exact h.perm e.symm
abbrev ansL (W : World) (b2 b4 b6 : Nat) (p q : R49) (a : Option Addr) (c : Nat) (ds : List Dd) (I E : Int) (M : List HP) : List HP :=
 pt b6 (.cells #[.int .i64 E] 28 (0,0)) :: pt b4 (.cells #[.int .i64 I] 3 (0,0)) :: pt b2 (.cells (mk60 p q a ds.length c).c 61 (0,0)) :: slP 27 12 a ds.length c (ds.flatMap fun d => d.1.l) :: (ds.reverse.map (fun d => dtP W d.1.c d.2) ++ M)
theorem ans_fail (h : Hs W (rtL b2 b4 b6 i M) w) : Hs W (ansL W b2 b4 b6 R49.zz R49.zz none 0 [] (i : Int) 250 M) w :=
 Hs.behind (L := [pt b6 (.cells #[.int .i64 250] 28 (0,0)),pt b4 (.cells #[.int .i64 (i : Int)] 3 (0,0)),pt b2 (.cells zero60 61 (0,0))]) (h.nil 27 12)
theorem IsScr.start (ls : List (List UInt8)) (p q : R49) : IsScr ls 0 p q [] := ⟨fun h => absurd h (by omega),fun h => absurd h (by omega),rfl,fun k d h => by simp at h⟩
theorem IsScr.endStep {ls : List (List UInt8)} {u : List UInt8} {R : R49} (h : IsScr ls i p q ds) (hi : i < 2) (hu : ls[i]? = some u) (hR : IsConf (bs u) R) : IsScr ls (i + 1) (if i = 0 then R else p) (if i = 0 then q else R) ds := by
 rcases (show i = 0 \/ i = 1 by omega) with rfl | rfl
 ·exact ⟨fun _ => ⟨u,hu,hR⟩,fun h => absurd h (by omega),h.len,h.ds⟩
 ·exact ⟨fun _ => h.p (by omega),fun _ => ⟨u,hu,hR⟩,h.len,h.ds⟩
theorem IsScr.deedStep {ls : List (List UInt8)} {u : List UInt8} {d : Dd} (h : IsScr ls i p q ds) (hi : 2 <= i) (hu : ls[i]? = some u) (hd : IsDeed (bs u) d.1 d.2) : IsScr ls (i + 1) p q (ds ++ [d]) := by
 have hl := h.len
 refine ⟨fun _ => h.p (by omega),fun _ => h.q (by omega),by simp; omega,fun k e he => ?_⟩
 rcases Nat.lt_or_ge k ds.length with hk | hk
 ·rw [List.getElem?_append_left hk] at he
  exact h.ds k e he
 ·rw [List.getElem?_append_right hk] at he
  have hk2 : k - ds.length = 0 := by
   rcases Nat.eq_zero_or_pos (k - ds.length) with h1 | h1
   ·exact h1
   ·rw [List.getElem?_eq_none (by simp; omega)] at he; cases he
  rw [hk2] at he
  simp at he
  subst he
  have : k + 2 = i := by omega
  exact ⟨u,by rw [this]; exact hu,hd⟩
theorem F20_3_go {Kr : Value -> Value -> Value -> World -> Prop} {s : ByteArray} (hT : TB W) (hs : s.size <= 4194304) (h : Hs W (rdL W b2 b4 b6 b14 b16 0 R49.zz R49.zz none 0 [] M) w)
  (hK : ∀ p q a c ds I E w',ReadB (cutL (bl s)).1 (cutL (bl s)).2 p q ds I E -> Hs W (ansL W b2 b4 b6 p q a c ds I E M) w' -> Kr (.pointer (some ⟨b2,0,none⟩)) (.pointer (some ⟨b4,0,none⟩)) (.pointer (some ⟨b6,0,none⟩)) w') :
  F20_3 Kr (.string s) (.pointer (some ⟨b2,0,none⟩)) (.pointer (some ⟨b4,0,none⟩)) (.pointer (some ⟨b6,0,none⟩)) (.pointer (some ⟨b14,0,none⟩)) (.pointer (some ⟨b16,0,none⟩)) w := by
 have hsl : (bl s).length <= 4194304 := hs
 obtain ⟨hlu,hlt,hln⟩ := cutL_len (bl s)
 obtain ⟨ls,tl,hcl⟩ : ∃ ls tl,cutL (bl s) = (ls,tl) := ⟨_,_,rfl⟩
 rw [hcl] at hK hlu hlt hln
 simp only at hK hlu hlt hln
 unfold F20_3
 simp only [rdA_mk,rdS_mk]
 refine clr (v := .func (.func 66) #[] #[.pointer (some (Addr.mk w.heap.size 0 none))]) (w2 := w.alloc (.cells #[.string s] 9)) (F45_ok ?_) ?_
 ·unfold F45
  simp only [rdS_mk]
  exact KR.mk _ _
 have h7 : Hs W (pt w.heap.size (.cells #[.string s] 9 (0,0)) :: rdL W b2 b4 b6 b14 b16 0 R49.zz R49.zz none 0 [] M) (w.alloc (.cells #[.string s] 9)) := h.alloc _
 generalize w.alloc (.cells #[.string s] 9) = w7 at h7 ⊢
 generalize w.heap.size = sb at h7 ⊢
 refine ⟨_,rfl,66,_,rfl,by kernel_rfl,fun rec hy => ?_⟩
 have h1 := (h7.alloc (.deferred (some []))).alloc (rec .ready none)
 have hsz : (w7.alloc (.deferred (some []))).heap.size = w7.heap.size + 1 := by simp
 rw [hsz] at h1
 generalize (w7.alloc (.deferred (some []))).alloc (rec .ready none) = w1 at h1 ⊢
 obtain ⟨l,hl0⟩ : ∃ l,l = w7.heap.size + 1 := ⟨_,rfl⟩
 obtain ⟨D,hD⟩ : ∃ D,D = w7.heap.size := ⟨_,rfl⟩
 rw [← hl0] at h1 hy ⊢
 rw [← hD] at h1 ⊢
 have h2 : Hs W (pt sb (.cells #[.string (bs (bl s))] 9 (0,0)) :: pt l (rec .ready none) :: pt D (.deferred (some [])) :: rdL W b2 b4 b6 b14 b16 0 R49.zz R49.zz none 0 [] M) w1 := by
  rw [bs_bl]
  exact h1.perm (List.perm_middle (l₁ := [pt l (rec .ready none),pt D (.deferred (some []))]))
 clear h1 h7 h
 show Calls Tryz.prog 66 #[.func (.yield l) #[] #[],.pointer (some ⟨sb,0,none⟩)] w1 _
 refine rt_mono (c66 (W := W) (x0 := .func (.yield l) #[] #[]) (sb := sb) (l0 := bl s)
  (I := fun i L => ∃ p q a c ds,IsScr ls i p q ds /\ i <= ls.length /\ ds.length <= 65536 /\ L = pt l (rec .ready none) :: pt D (.deferred (some [])) :: rdL W b2 b4 b6 b14 b16 i p q a c ds M)
  (J := fun i L => L = pt l (rec .done (some .ret)) :: pt D (.deferred (some [])) :: rtL b2 b4 b6 i M)
  (Ok := OkAt ls) (by omega) ?_ ?_ ⟨R49.zz,R49.zz,none,0,[],IsScr.start _ _ _,Nat.zero_le _,by simp,rfl⟩ h2) ?_
 ·rw [hcl]
  intro i u v L w2 K hu hI h hok hno
  obtain ⟨p,q,a,c,ds,hsc,hil,hdl,rfl⟩ := hI
  have hil2 : i < ls.length := (List.getElem?_eq_some_iff.1 hu).1
  have hul := hlu u (List.mem_of_getElem? hu)
  refine .inr ⟨l,rfl,hy _ _ _ (h.at 1 rfl) ⟨_,rfl,?_⟩⟩
  have h5 := rd_in (h.sb 1 rfl (rec .busy none))
  refine body_go (u := u) (ok := true) hT (by omega) (fun w => c46_yes (by omega)) (by omega) hdl h5 (fun hi _ R hR w' h' => ?_) (fun hi _ hle d a' c' hd w' h' => ?_) (fun hn1 hn2 w' h' => ?_)
  ·have h6 := rd_out h'
   refine ⟨h6.at 1 rfl,true,rfl,hok ((OkAt.conf hu hi).2 ⟨R,hR⟩) _ _ ⟨_,_,a,c,ds,hsc.endStep hi hu hR,hil2,hdl,rfl⟩ (h6.sb 1 rfl (rec .ready none))⟩
  ·have h6 := rd_out h'
   refine ⟨h6.at 1 rfl,true,rfl,hok ((OkAt.deed hu hi).2 ⟨by rw [← hsc.len]; exact hle,d.1,d.2,hd⟩) _ _ ⟨_,_,a',c',ds ++ [d],hsc.deedStep hi hu hd,hil2,by simp; omega,rfl⟩ (h6.sb 1 rfl (rec .ready none))⟩
  ·have h6 := rt_out h'
   refine ⟨h6.at 1 rfl,false,rfl,hno (fun ho => ?_) _ _ rfl (h6.sb 1 rfl (rec .done (some .ret)))⟩
   rcases Nat.lt_or_ge i 2 with hi | hi
   ·exact hn1 rfl hi ((OkAt.conf hu hi).1 ho)
   ·obtain ⟨h8,h9⟩ := (OkAt.deed hu hi).1 ho
    exact hn2 rfl hi (by rw [hsc.len]; exact h8) h9
 ·rw [hcl]
  intro v L w2 K htl hno hI h hfail
  simp only at htl hno hI hfail ⊢
  obtain ⟨p,q,a,c,ds,hsc,hil,hdl,rfl⟩ := hI
  refine .inr ⟨l,rfl,hy _ _ _ (h.at 1 rfl) ⟨_,rfl,?_⟩⟩
  have h5 := rd_in (h.sb 1 rfl (rec .busy none))
  refine body_go (u := tl) (ok := false) hT (by omega) (fun w => c46_no (by omega) hno) (by omega) hdl h5 (fun _ h => by cases h) (fun _ h => by cases h) (fun _ _ w' h' => ?_)
  have h6 := rt_out h'
  exact ⟨h6.at 1 rfl,false,rfl,hfail _ _ rfl (h6.sb 1 rfl (rec .done (some .ret)))⟩
 ·rw [hcl]
  rintro _ w2 ⟨rfl,s2,L,h,hcase⟩
  rcases hcase with ⟨hall,htl,p,q,a,c,ds,hsc,hil,hdl,rfl⟩ | ⟨i,hall,hend,rfl⟩
  ·refine .inl ⟨h.at 1 rfl,?_⟩
   have h3 : Hs W (pt sb (.cells #[.string s2] 9 (0,0)) :: pt l (rec .exhausted none) :: pt D (.deferred (some [])) :: rdL W b2 b4 b6 b14 b16 ls.length p q a c ds M) (w2.putObj l (rec .exhausted none)) := h.sb 1 rfl (rec .exhausted none)
   have h4 : Hs W (pt D (.deferred (some [])) :: rdL W b2 b4 b6 b14 b16 ls.length p q a c ds M) (w2.putObj l (rec .exhausted none)) := h3.drop.drop
   refine h4.ldI 1 rfl rfl ?_
   refine br_dec.2 ⟨fun hi2 => ?_,fun hi2 => ?_⟩
   ·refine h4.drw fun w6 h6 => ⟨Go.Sh.lone w6 b16 _,Go.Sh.Pres.lone (h6.at 1 rfl),?_⟩
    refine ldI_c (n := (ls.length : Int)) ?_ ?_
    ·have := Go.Sh.lone_at w6 b16 (.cells #[.int .i64 (ls.length : Int)] 3 (0,0))
     rw [cell_at this]
     rfl
    ·refine h6.stcL 6 rfl (by rfl) fun w9 h9 => ?_
     have h9 : Hs W (pt D (.deferred (some [])) :: rdL W b2 b4 b6 b14 b16 ls.length p q a c ds M) w9 := h9
     refine ⟨Go.Sh.Pres.lone (h9.at 1 rfl),?_⟩
     refine h9.stc 5 rfl (by simp) fun w10 h10 => ?_
     refine h10.stc 4 rfl (by simp) fun w11 h11 => ?_
     have h11 : Hs W (pt D (.deferred (some [])) :: pt b16 (.cells #[.int .i64 (ls.length : Int)] 3 (0,0)) :: pt b14 (.cells (mk60 p q a ds.length c).c 61 (0,0)) :: slP 27 12 a ds.length c (ds.flatMap fun d => d.1.l) :: pt b6 (.cells #[.int .i64 250] 28 (0,0)) :: pt b4 (.cells #[.int .i64 (ls.length : Int)] 3 (0,0)) :: pt b2 (.cells zero60 61 (0,0)) :: (ds.reverse.map (fun d => dtP W d.1.c d.2) ++ M)) w11 := h11
     refine ⟨h11.at 0 rfl,?_⟩
     have h12 := (h11.sb 0 rfl (.deferred none)).drop.drop.drop.drop
     have h13 : Hs W (ds.reverse.map (fun d => dtP W d.1.c d.2) ++ rtL b2 b4 b6 ls.length M) (w11.putObj D (.deferred none)) :=
      h12.perm (by
       have := (List.perm_append_comm (l₁ := [pt b6 (.cells #[.int .i64 250] 28 (0,0)),pt b4 (.cells #[.int .i64 (ls.length : Int)] 3 (0,0)),pt b2 (.cells zero60 61 (0,0))]) (l₂ := ds.reverse.map (fun d => dtP W d.1.c d.2))).append_right M
       simpa using this)
     exact hK _ _ _ _ _ _ _ _ (.inr ⟨ls.length,hall,.inr ⟨rfl,.inr (by omega)⟩,rfl,rfl,rfl,rfl,rfl⟩) (ans_fail h13.dropL)
   ·refine ldR60_of (s := mk60 p q a ds.length c) (h4.atL 2 rfl) ?_
    refine h4.stcL 6 rfl (by rfl) fun w9 h9 => ?_
    refine h9.stc 5 rfl (by simp) fun w10 h10 => ?_
    refine h10.stc 4 rfl (by simp) fun w11 h11 => ?_
    have h11 : Hs W (pt D (.deferred (some [])) :: pt b16 (.cells #[.int .i64 (ls.length : Int)] 3 (0,0)) :: pt b14 (.cells (mk60 p q a ds.length c).c 61 (0,0)) :: slP 27 12 a ds.length c (ds.flatMap fun d => d.1.l) :: pt b6 (.cells #[.int .i64 0] 28 (0,0)) :: pt b4 (.cells #[.int .i64 0] 3 (0,0)) :: pt b2 (.cells (mk60 p q a ds.length c).c 61 (0,0)) :: (ds.reverse.map (fun d => dtP W d.1.c d.2) ++ M)) w11 := h11
    refine ⟨h11.at 0 rfl,?_⟩
    have h12 := (h11.sb 0 rfl (.deferred none)).drop.drop.drop
    have h13 : Hs W (ansL W b2 b4 b6 p q a c ds 0 0 M) (w11.putObj D (.deferred none)) :=
     Hs.behind (L := [pt b6 (.cells #[.int .i64 0] 28 (0,0)),pt b4 (.cells #[.int .i64 0] 3 (0,0)),pt b2 (.cells (mk60 p q a ds.length c).c 61 (0,0))]) h12
    exact hK _ _ _ _ _ _ _ _ (.inl ⟨htl,by omega,hall,hsc,rfl,rfl⟩) h13
  ·refine .inr ⟨.ret,h.at 1 rfl,?_⟩
   have h3 : Hs W (pt sb (.cells #[.string s2] 9 (0,0)) :: pt l (rec .exhausted (some .ret)) :: pt D (.deferred (some [])) :: rtL b2 b4 b6 i M) (w2.putObj l (rec .exhausted (some .ret))) := h.sb 1 rfl (rec .exhausted (some .ret))
   show _ /\ _
   refine ⟨h3.at 2 rfl,?_⟩
   have h4 := (h3.sb 2 rfl (.deferred none)).drop.drop.drop
   refine hK _ _ _ _ _ _ _ _ (.inr ⟨i,hall,?_,rfl,rfl,rfl,rfl,rfl⟩) (ans_fail h4)
   rcases hend with h | ⟨h1,h2⟩
   ·exact .inl h
   ·exact .inr ⟨h1,.inl h2⟩
theorem c20 {s : ByteArray} (hT : TB W) (h : Hs W M w) : Calls Tryz.prog 20 #[.string s] w (rt fun v w' => ∃ p q a c ds I E,v = .tuple #[(mk60 p q a ds.length c).v,.int .i64 I,.int .i64 E] /\ ReadA s p q ds I E /\ Hs W (slP 27 12 a ds.length c (ds.flatMap fun d => d.1.l) :: (ds.reverse.map (fun d => dtP W d.1.c d.2) ++ M)) w') := by
 refine F20_ok ?_
 unfold F20
 simp only [rdS_mk]
 refine h.alc fun b2 w3 h3 => h3.alc fun b4 w5 h5 => h5.alc fun b6 w7 h7 => ?_
 have h7 : Hs W (pt b6 (.cells #[.int .i64 0] 28 (0,0)) :: pt b4 (.cells #[.int .i64 0] 3 (0,0)) :: pt b2 (.cells zero60 61 (0,0)) :: M) w7 := h7
 refine br_dec.2 ⟨fun hl => ?_,fun hl => ?_⟩
 ·refine h7.stcL 2 rfl (by rfl) fun w8 h8 => ?_
  refine h8.stc 1 rfl (by simp) fun w9 h9 => ?_
  refine h9.stc 0 rfl (by simp) fun w10 h10 => ?_
  have h10 : Hs W (pt b6 (.cells #[.int .i64 2] 28 (0,0)) :: pt b4 (.cells #[.int .i64 0] 3 (0,0)) :: pt b2 (.cells zero60 61 (0,0)) :: M) w10 := h10
  refine ldR60_of (s := mk60 R49.zz R49.zz none 0 0) (h10.atL 2 rfl) (h10.ldI 1 rfl rfl (h10.ldI 0 rfl rfl ?_))
  exact ⟨R49.zz,R49.zz,none,0,[],0,2,rfl,.inl ⟨by omega,rfl,rfl,rfl,rfl,rfl⟩,(h10.drop.drop.drop).nil 27 12⟩
 ·refine h7.alc fun b14 w15 h15 => h15.alc fun b16 w17 h17 => ?_
  have h17 : Hs W (pt b16 (.cells #[.int .i64 0] 3 (0,0)) :: pt b14 (.cells zero60 61 (0,0)) :: pt b6 (.cells #[.int .i64 0] 28 (0,0)) :: pt b4 (.cells #[.int .i64 0] 3 (0,0)) :: pt b2 (.cells zero60 61 (0,0)) :: M) w17 := h17
  refine h17.stc 0 rfl (by simp) fun w18 h18 => ?_
  have h19 : Hs W (rdL W b2 b4 b6 b14 b16 0 R49.zz R49.zz none 0 [] M) w18 :=
   Hs.behind (L := [pt b16 (.cells #[.int .i64 0] 3 (0,0)),pt b14 (.cells zero60 61 (0,0))]) (h18.nil 27 12)
  refine F20_3_go hT (by omega) h19 fun p q a c ds I E w' hR h' => ?_
  intro _
  simp only [rdA_mk]
  refine ldR60_of (s := mk60 p q a ds.length c) (h'.atL 2 rfl) (h'.ldI 1 rfl rfl (h'.ldI 0 rfl rfl ?_))
  exact ⟨p,q,a,c,ds,I,E,rfl,.inr ⟨by omega,hR⟩,h'.drop.drop.drop⟩
end
end Go.Proofs.YtilenpnpnbdndaaGreatDoor
