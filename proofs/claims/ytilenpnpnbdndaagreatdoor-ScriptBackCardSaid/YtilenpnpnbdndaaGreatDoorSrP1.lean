/- Own text: part of the shallow reading of the code and of the contracts that are proved over it. -/
import Derived.Test.YtilenpnpnbdndaaGreatDoorShR
import Derived.Test.YtilenpnpnbdndaaGreatDoorStWit
import Derived.Test.YtilenpnpnbdndaaGreatDoorSrN
import Derived.Test.YtilenpnpnbdndaaGreatDoorShO
import Derived.KernelRfl
namespace Go.Proofs.YtilenpnpnbdndaaGreatDoor
open Go Go.Sh
open Go.ChangeShapes Go.WideShapes Go.ChangeAt Go.WideMaps Go.WideElems Go.RowKit
set_option maxRecDepth 100000
namespace Row
theorem u58 : Tryz.prog.underlying 58 = some (.array 2 50) := by kernel_rfl
theorem c58 : Tryz.prog.cellsOf 58 = 82 := by kernel_rfl
theorem c59 : Tryz.prog.cellsOf 59 = 1 := by kernel_rfl
theorem c61 : Tryz.prog.cellsOf 61 = 83 := by kernel_rfl
theorem s61 : structIs Tryz.prog 61 [(58,0),(59,82)] = true := by kernel_rfl
end Row
section
variable {H : Type} {enc : TypeId × Value -> H} {P : Program} {w : World}
theorem recs_sl {t e : TypeId} {fuel : Nat} {a0 : Option Addr} {l0 c0 : Nat} {d : DataW H} {ps : List MemPlace} {sz : Nat} {Q : List Value -> Prop} (hs : 0 < sz) (ht : P.underlying t = some (.slice e)) (hc : P.cellsOf e = sz) (hw : light P t d)
  (hQ : ∀ (n : Nat) (cs : List Value) (x : DataW H × List MemPlace),cs.length = sz -> DataW.trod enc P w 0 (fun _ => true) true n e cs = some x -> light P e x.1 -> Q cs)
  (hf : DataW.trod enc P w 0 (fun _ => true) true fuel t [.slice a0 l0 c0] = some (d,ps)) : ∃ rows : List (List Value),l0 = rows.length /\ rows.length <= c0 /\ c0 <= maxLen /\ Rd w a0 rows.flatten /\ ∀ r ∈ rows,r.length = sz /\ Q r := by
 rcases DataW.trod_slice ht hf with ⟨hcs,hx⟩ | ⟨a,len,cap,elems,rest,n,_,hcs,hx,hb,hl,hm,hlen,hel,_,_⟩
 ·simp at hcs
  obtain ⟨rfl,rfl,rfl⟩ := hcs
  exact ⟨[],rfl,Nat.le_refl _,Nat.zero_le _,Rd.nil _ _,by simp⟩
 ·simp at hcs
  obtain ⟨rfl,rfl,rfl⟩ := hcs
  have hd : d = .slice (elems.map (·.1)) (rest.map (·.1)) := congrArg Prod.fst hx
  rw [hc] at hel
  have each : ∀ i,i < l0 -> ∃ cs,w.cells? 0 (a.add (i * sz)) sz = some cs /\ Q cs := by
   intro i hi
   have h1 := hel i hi
   obtain ⟨x,hx⟩ : ∃ x,elems[i]? = some x := ⟨elems[i]'(by omega),by simp⟩
   rw [hx,Option.bind_eq_some_iff] at h1
   obtain ⟨cs,h2,h3⟩ := h1
   refine ⟨cs,h2,hQ n cs x (cells_list h2).1 h3 ?_⟩
   rw [hd] at hw
   exact light_elem ht hw (List.mem_map.2 ⟨x,List.mem_of_getElem? hx,rfl⟩)
  have all : ∀ l,l <= l0 -> ∃ rows : List (List Value),rows.length = l /\ (∀ i r,rows[i]? = some r -> w.cells? 0 (a.add (i * sz)) sz = some r) /\ ∀ r ∈ rows,Q r := by
   intro l
   induction l with
   | zero => intro _; exact ⟨[],rfl,by simp,by simp⟩
   | succ l ih =>
    intro hl'
    obtain ⟨rows,r1,r2,r3⟩ := ih (by omega)
    obtain ⟨cs,h1,h2⟩ := each l (by omega)
    refine ⟨rows ++ [cs],by simp [r1],fun i r hr => ?_,fun r hr => ?_⟩
    ·rcases Nat.lt_or_ge i rows.length with hi | hi
     ·rw [List.getElem?_append_left hi] at hr; exact r2 i r hr
     ·rw [List.getElem?_append_right hi] at hr
      have : i - rows.length = 0 := by
       rcases Nat.eq_zero_or_pos (i - rows.length) with h | h
       ·exact h
       ·rw [List.getElem?_eq_none (by simp; omega)] at hr; cases hr
      rw [this] at hr
      simp at hr; subst hr
      have : i = l := by omega
      subst this; exact h1
    ·rcases List.mem_append.1 hr with hr | hr
     ·exact r3 r hr
     ·simp at hr; subst hr; exact h2
  obtain ⟨rows,r1,r2,r3⟩ := all l0 (Nat.le_refl _)
  have hrl : ∀ r ∈ rows,r.length = sz := fun r hr => by
   obtain ⟨i,hi⟩ := List.getElem?_of_mem hr
   exact (cells_list (r2 i r hi)).1
  refine ⟨rows,r1.symm,by omega,hm,fun j u hj => ⟨a,rfl,?_⟩,fun r hr => ⟨hrl r hr,r3 r hr⟩⟩
  rw [flatten_at hs hrl,Option.bind_eq_some_iff] at hj
  obtain ⟨r,h1,h2⟩ := hj
  have h3 := (cells_list (r2 _ r h1)).2 (j % sz) (Nat.mod_lt _ hs)
  rw [add_add,h2] at h3
  rw [← h3]
  congr 2
  have := Nat.div_add_mod j sz
  rw [Nat.mul_comm] at this
  exact this.symm
end
section
variable {H : Type} {enc : TypeId × Value -> H} {w : World}
theorem deeds_open {n : Nat} {cs : List Value} {x : DataW H × List MemPlace} (h : DataW.trod enc Tryz.prog w 0 (fun _ => true) true n 59 cs = some x) (hw : light Tryz.prog 59 x.1) :
  ∃ (a : Option Addr) (ds : List Dd) (c : Nat),cs = [.slice a ds.length c] /\ Rd w a (ds.flatMap fun d => d.1.l) /\ (∀ d ∈ ds,DeedOk w d.1 d.2) /\ ds.length <= 9223372036854775807 := by
 obtain ⟨a0,l0,c0,rfl⟩ : ∃ a l c,cs = [.slice a l c] := by
  rcases DataW.trod_slice Row.u59 h with ⟨hcs,_⟩ | ⟨a,len,cap,_,_,_,_,hcs,_⟩
  ·exact ⟨_,_,_,hcs⟩
  ·exact ⟨_,_,_,hcs⟩
 obtain ⟨rows,hl,hm1,hm2,hr,hQ⟩ := recs_sl (enc := enc) (sz := 12) (Q := fun cs => ∃ d : Dd,cs = d.1.l /\ DeedOk w d.1 d.2) (d := x.1) (ps := x.2) (by decide) Row.u59 Row.c27 hw
  (fun n cs x hl h hw => by
   obtain ⟨R,d,e,hk⟩ := deed_open hl h hw
   exact ⟨(R,d),e,hk⟩) h
 obtain ⟨ds,hd,hfl,hok⟩ := recs_of rows fun r hr => (hQ r hr).2
 rw [hfl] at hr
 exact ⟨a0,ds,c0,by rw [hl,hd],hr,hok,by unfold maxLen at hm2; omega⟩
theorem scr_open {n : Nat} {cs : List Value} {x : DataW H × List MemPlace} (hl : cs.length = 83) (h : DataW.trod enc Tryz.prog w 0 (fun _ => true) true n 61 cs = some x) (hw : light Tryz.prog 61 x.1) :
  ∃ (p q : R49) (a : Option Addr) (ds : List Dd) (c : Nat),cs = (mk60 p q a ds.length c).l /\ ScrOk w p q a ds /\ ds.length <= 9223372036854775807 := by
 obtain ⟨m,hf⟩ := fld_of2 Row.s61 h hw
 obtain ⟨y0,h0,_⟩ := hf 0 58 0 rfl
 obtain ⟨y1,h1,l1⟩ := hf 1 59 82 rfl
 rw [Row.c58,List.drop_zero] at h0
 rw [Row.c59] at h1
 obtain ⟨xs,m2,_,_,hxl,_,hel⟩ := DataW.trod_array Row.u58 h0
 have he0 := hel 0 (by decide)
 have he1 := hel 1 (by decide)
 rw [Row.c50,Nat.zero_mul,List.drop_zero,List.take_take] at he0
 rw [Row.c50,Nat.one_mul,List.drop_take,List.take_take] at he1
 obtain ⟨z0,hz0⟩ : ∃ z,xs[0]? = some z := ⟨xs[0]'(by omega),by simp⟩
 obtain ⟨z1,hz1⟩ : ∃ z,xs[1]? = some z := ⟨xs[1]'(by omega),by simp⟩
 rw [hz0] at he0
 rw [hz1] at he1
 obtain ⟨p,ep,gp⟩ := conf_open (by simp; omega) he0
 obtain ⟨q,eq,gq⟩ := conf_open (by simp; omega) he1
 obtain ⟨a,ds,c,e,hr,hok,hln⟩ := deeds_open h1 l1
 refine ⟨p,q,a,ds,c,?_,⟨gp,gq,hr,fun d hd => (hok d hd).good,fun d hd => (hok d hd).holds,fun d hd => by have := (hok d hd).len; omega⟩,hln⟩
 rw [mk60_l,← ep,← eq,← e]
 simp only [Nat.reduceSub,Nat.min_def,Nat.reduceLeDiff,if_true]
 have e1 : cs = cs.take 41 ++ cs.drop 41 := (List.take_append_drop 41 cs).symm
 have e2 : cs.drop 41 = (cs.drop 41).take 41 ++ (cs.drop 41).drop 41 := (List.take_append_drop 41 _).symm
 have e3 : (cs.drop 82).take 1 = cs.drop 82 := List.take_of_length_le (by simp; omega)
 rw [e3]
 conv => lhs; rw [e1,e2,List.drop_drop]
theorem scr_in {r : Reach} {b0 : Nat} {v : Value} {d : DataW H} {ps : List MemPlace} (hval : Value.okWide Tryz.prog w r b0 61 v) (hw : light Tryz.prog 61 d) (h : DataW.Trod enc Tryz.prog w 0 (fun _ => true) true 61 v d ps) :
  ∃ (p q : R49) (a : Option Addr) (ds : List Dd) (c : Nat),v = (mk60 p q a ds.length c).v /\ ScrOk w p q a ds /\ ds.length <= 9223372036854775807 := by
 obtain ⟨fs,hu,_⟩ := struct_of Row.s61
 obtain ⟨cs,rfl,hsz⟩ := okWide_struct hu hval
 rw [Row.c61] at hsz
 obtain ⟨fuel,hf⟩ := h
 obtain ⟨p,q,a,ds,c,ho,hk⟩ := scr_open (w := w) (enc := enc) (n := fuel) (cs := cs.toList) (x := (d,ps)) (by simpa using hsz) hf hw
 refine ⟨p,q,a,ds,c,?_,hk⟩
 unfold R60.v
 congr 1
 apply Array.toList_inj.1
 rw [ho]
 rfl
end
end Go.Proofs.YtilenpnpnbdndaaGreatDoor
namespace Go.Proofs.YtilenpnpnbdndaaGreatDoor
open Go Go.Sh
set_option maxRecDepth 100000
attribute [local instance] Esc.none
def cutL : List UInt8 -> List (List UInt8) × List UInt8
 | [] => ([],[])
 | c :: l => if c = 10 then ([] :: (cutL l).1,(cutL l).2) else match cutL l with
  | ([],t) => ([],c :: t)
  | (x :: xs,t) => ((c :: x) :: xs,t)
theorem cutL_cut : ∀ (a b : List UInt8),10 ∉ a -> cutL (a ++ 10 :: b) = (a :: (cutL b).1,(cutL b).2)
 | [],b,_ => by simp [cutL]
 | x :: a,b,h => by
  have hx : x ≠ 10 := fun e => h (by simp [e])
  have ih := cutL_cut a b fun hr => h (by simp [hr])
  rw [List.cons_append]
  conv => lhs; unfold cutL
  rw [if_neg hx,ih]
theorem cutL_none : ∀ (a : List UInt8),10 ∉ a -> cutL a = ([],a)
 | [],_ => rfl
 | x :: a,h => by
  have hx : x ≠ 10 := fun e => h (by simp [e])
  have ih := cutL_none a fun hr => h (by simp [hr])
  unfold cutL
  rw [if_neg hx,ih]
section
variable {W w : World} {M : List HP}
theorem c97_yes {u : List UInt8} (hu : u.length <= 100000000) : Calls Tryz.prog 97 #[.string (bs (u ++ [10])),.string ⟨#[10]⟩] w (rt (KR (.bool true) w)) := by
 refine F97_ok ?_
 unfold F97
 simp only [rdS_mk]
 have hsz : (ByteArray.size ⟨#[10]⟩ : Int) = 1 := rfl
 have hs2 : (bs (u ++ [10])).size = u.length + 1 := by
  show (u ++ [10]).length = _
  simp
 rw [hsz,hs2,decide_eq_true (by omega),br_true]
 have e : IntKind.wrap .i64 (((u.length + 1 : Nat) : Int) - 1) = (u.length : Int) := by rw [wrap_i64 (by omega) (by omega)]; omega
 rw [e]
 refine slT_lo (by omega) ?_
 have e2 : (bl (bs (u ++ [10]))).drop u.length = [10] := List.drop_left
 rw [e2,show (ByteArray.toList (bs [10]) == ByteArray.toList ⟨#[10]⟩) = true by rw [tl_data,tl_data]; rfl]
 exact KR.mk _ _
theorem c97_no {t : List UInt8} (hu : t.length <= 100000000) (hn : 10 ∉ t) : Calls Tryz.prog 97 #[.string (bs t),.string ⟨#[10]⟩] w (rt (KR (.bool false) w)) := by
 refine F97_ok ?_
 unfold F97
 simp only [rdS_mk]
 have hsz : (ByteArray.size ⟨#[10]⟩ : Int) = 1 := rfl
 have hs2 : (bs t).size = t.length := rfl
 rw [hsz,hs2]
 refine br_dec.2 ⟨fun h => ?_,fun h => KR.mk _ _⟩
 obtain ⟨m,hm⟩ : ∃ m,t.length = m + 1 := ⟨t.length - 1,by omega⟩
 have e : IntKind.wrap .i64 ((t.length : Int) - 1) = (m : Int) := by rw [wrap_i64 (by omega) (by omega)]; omega
 rw [e]
 refine slT_lo (by omega) ?_
 have hd : (bl (bs t)).drop m = [t[m]'(by omega)] := by
  show t.drop m = _
  rw [List.drop_eq_getElem_cons (by omega),List.drop_eq_nil_of_le (by omega)]
 have hne : t[m]'(by omega) ≠ 10 := fun e => hn (by rw [← e]; exact List.getElem_mem _)
 have : (ByteArray.toList (bs ((bl (bs t)).drop m)) == ByteArray.toList ⟨#[10]⟩) = false := by
  rw [tl_data,tl_data,hd]
  show ([t[m]'(by omega)] == [10]) = false
  simpa using hne
 rw [this]
 exact KR.mk _ _
theorem c46_yes {u : List UInt8} (hu : u.length <= 100000000) : Calls Tryz.prog 46 #[.string (bs (u ++ [10])),.string ⟨#[10]⟩] w (rt (KR (.tuple #[.string (bs u),.bool true]) w)) := by
 refine F46_ok ?_
 unfold F46
 simp only [rdS_mk]
 refine clr (v := .tuple #[.string (bs u),.bool true]) (w2 := w) ?_ ⟨_,_,rfl,KR.mk _ _⟩
 refine F68_ok ?_
 unfold F68
 simp only [rdS_mk]
 refine clr (c97_yes hu) ⟨_,rfl,?_⟩
 rw [Bool.not_true,br_false]
 have hsz : (ByteArray.size ⟨#[10]⟩ : Int) = 1 := rfl
 have hs2 : (bs (u ++ [10])).size = u.length + 1 := by
  show (u ++ [10]).length = _
  simp
 have e : IntKind.wrap .i64 (((bs (u ++ [10])).size : Int) - (ByteArray.size ⟨#[10]⟩ : Int)) = (u.length : Int) := by rw [hsz,hs2,wrap_i64 (by omega) (by omega)]; omega
 rw [e]
 refine slT_hi (by omega) ?_
 have e2 : (bl (bs (u ++ [10]))).take u.length = u := List.take_left
 rw [e2]
 exact KR.mk _ _
theorem c46_no {t : List UInt8} (hu : t.length <= 100000000) (hn : 10 ∉ t) : Calls Tryz.prog 46 #[.string (bs t),.string ⟨#[10]⟩] w (rt (KR (.tuple #[.string (bs t),.bool false]) w)) := by
 refine F46_ok ?_
 unfold F46
 simp only [rdS_mk]
 refine clr (v := .tuple #[.string (bs t),.bool false]) (w2 := w) ?_ ⟨_,_,rfl,KR.mk _ _⟩
 refine F68_ok ?_
 unfold F68
 simp only [rdS_mk]
 refine clr (c97_no hu hn) ⟨_,rfl,?_⟩
 rw [Bool.not_false,br_true]
 exact KR.mk _ _
theorem c66 {x0 : Value} {sb : Nat} {I J : Nat -> List HP -> Prop} {Ok : Nat -> Prop} {l0 : List UInt8} {L0 : List HP} (hlen : l0.length <= 100000000)
  (hy : ∀ (i : Nat) (u : List UInt8) (v : ByteArray) (L : List HP) (w : World) (K : Value -> World -> Prop),(cutL l0).1[i]? = some u -> I i L -> Hs W (pt sb (.cells #[.string v] 9 (0,0)) :: L) w ->
   (Ok i -> ∀ L' w',I (i + 1) L' -> Hs W (pt sb (.cells #[.string v] 9 (0,0)) :: L') w' -> K (.bool true) w') -> (¬ Ok i -> ∀ L' w',J i L' -> Hs W (pt sb (.cells #[.string v] 9 (0,0)) :: L') w' -> K (.bool false) w') ->
   callV Tryz.prog x0 #[.string (bs (u ++ [10]))] w (.one (.one .bool)) K)
  (hz : ∀ (v : ByteArray) (L : List HP) (w : World) (K : Value -> World -> Prop),(cutL l0).2 ≠ [] -> 10 ∉ (cutL l0).2 -> I (cutL l0).1.length L -> Hs W (pt sb (.cells #[.string v] 9 (0,0)) :: L) w ->
   (∀ L' w',J (cutL l0).1.length L' -> Hs W (pt sb (.cells #[.string v] 9 (0,0)) :: L') w' -> K (.bool false) w') ->
   callV Tryz.prog x0 #[.string (bs (cutL l0).2)] w (.one (.one .bool)) K)
  (hI : I 0 L0) (h : Hs W (pt sb (.cells #[.string (bs l0)] 9 (0,0)) :: L0) w) :
  Calls Tryz.prog 66 #[x0,.pointer (some ⟨sb,0,none⟩)] w (rt fun v w' => v = .tuple #[] /\ ∃ s L,Hs W (pt sb (.cells #[.string s] 9 (0,0)) :: L) w' /\
   (((∀ i,i < (cutL l0).1.length -> Ok i) /\ (cutL l0).2 = [] /\ I (cutL l0).1.length L) \/
    ∃ i,(∀ j,j < i -> Ok j) /\ ((i < (cutL l0).1.length /\ ¬ Ok i) \/ (i = (cutL l0).1.length /\ (cutL l0).2 ≠ [])) /\ J i L)) := by
 refine F66_ok ?_
 unfold F66
 simp only [rdA_mk]
 refine ⟨l0.length + 1,?_⟩
 have loop : ∀ (n : Nat) (l : List UInt8) (i k : Nat) (L : List HP) (w : World) (K0 Kr : World -> Prop),l.length <= n -> l.length < k -> l.length <= 100000000 -> (cutL l0).1.drop i = (cutL l).1 -> (cutL l0).2 = (cutL l).2 -> i <= (cutL l0).1.length -> I i L -> Hs W (pt sb (.cells #[.string (bs l)] 9 (0,0)) :: L) w -> (∀ j,j < i -> Ok j) ->
   (∀ s L w',Hs W (pt sb (.cells #[.string s] 9 (0,0)) :: L) w' -> (∀ i,i < (cutL l0).1.length -> Ok i) -> (cutL l0).2 = [] -> I (cutL l0).1.length L -> K0 w') ->
   (∀ s L w' i,Hs W (pt sb (.cells #[.string s] 9 (0,0)) :: L) w' -> (∀ j,j < i -> Ok j) -> ((i < (cutL l0).1.length /\ ¬ Ok i) \/ (i = (cutL l0).1.length /\ (cutL l0).2 ≠ [])) -> J i L -> Kr w') ->
   F66_1 K0 Kr k x0 (.pointer (some ⟨sb,0,none⟩)) w := by
  intro n
  induction n with
  | zero =>
   intro l i k L w K0 Kr hn hk hl hls htl hi hIL h hok hK hKr
   obtain ⟨k,rfl⟩ : ∃ n,k = n + 1 := ⟨k - 1,by omega⟩
   have hl0 : l = [] := List.length_eq_zero_iff.1 (by omega)
   subst hl0
   show F66_1B _ _ _ _ _ _
   unfold F66_1B
   simp only [rdA_mk]
   refine h.ldS 0 rfl rfl ?_
   rw [decide_eq_false (by show ¬ ((0 : Nat) : Int) > 0; omega),br_false]
   have hlen2 : (cutL l0).1.length = i := by
    have := congrArg List.length hls
    simp [cutL] at this
    omega
   exact hK _ L w h (fun j hj => hok j (by omega)) (by rw [htl]; rfl) (by rw [hlen2]; exact hIL)
  | succ n ih =>
   intro l i k L w K0 Kr hn hk hl hls htl hi hIL h hok hK hKr
   obtain ⟨k,rfl⟩ : ∃ n,k = n + 1 := ⟨k - 1,by omega⟩
   show F66_1B _ _ _ _ _ _
   unfold F66_1B
   simp only [rdA_mk]
   refine h.ldS 0 rfl rfl ?_
   by_cases hl0 : l = []
   ·subst hl0
    rw [decide_eq_false (by show ¬ ((0 : Nat) : Int) > 0; omega),br_false]
    have hlen2 : (cutL l0).1.length = i := by
     have := congrArg List.length hls
     simp [cutL] at this
     omega
    exact hK _ L w h (fun j hj => hok j (by omega)) (by rw [htl]; rfl) (by rw [hlen2]; exact hIL)
   ·have hpos : 0 < l.length := List.length_pos_iff.2 hl0
    rw [decide_eq_true (by show ((l.length : Nat) : Int) > 0; omega),br_true]
    refine h.ldS 0 rfl rfl ?_
    refine clr c67 ⟨_,rfl,?_⟩
    show br (decide (Lib.indexByte l 10 >= 0)) _ _
    refine br_dec.2 ⟨fun hge => ?_,fun hlt => ?_⟩
    ·obtain ⟨m,hm,hml,hnot,hsplit⟩ := ix_some hge
     have hcut : cutL l = (l.take m :: (cutL (l.drop (m + 1))).1,(cutL (l.drop (m + 1))).2) := by
      conv => lhs; rw [hsplit]
      exact cutL_cut _ _ hnot
     have e1 : IntKind.wrap .i64 (Lib.indexByte (bs l).data.toList ((10 : Int).toNat.toUInt8) + 1) = ((m + 1 : Nat) : Int) := by
      show IntKind.wrap .i64 (Lib.indexByte l 10 + 1) = _
      rw [hm,wrap_i64 (by omega) (by omega)]; omega
     rw [e1]
     refine h.drw fun w7 h7 => ?_
     have hms : m + 1 <= (bs l).size := by show m + 1 <= l.length; omega
     refine h7.ldS 0 rfl rfl (slT_hi hms (h7.ldS 0 rfl rfl (slT_lo hms ?_)))
     refine h7.stc 0 rfl (by simp) fun w12 h12 => ?_
     have htk : (bl (bs l)).take (m + 1) = l.take m ++ [10] := by
      show l.take (m + 1) = _
      conv => lhs; rw [hsplit]
      rw [List.take_append,List.take_take,List.length_take]
      have : min (m + 1) m = m := by omega
      have h2 : m + 1 - min m l.length = 1 := by omega
      rw [this,h2]
      simp
     rw [htk]
     have hu : (cutL l0).1[i]? = some (l.take m) := by
      have := congrArg (·[0]?) hls
      rw [hcut] at this
      simpa using this
     have hil : i < (cutL l0).1.length := (List.getElem?_eq_some_iff.1 hu).1
     have h12 : Hs W (pt sb (.cells #[.string (bs (l.drop (m + 1)))] 9 (0,0)) :: L) w12 := h12
     refine hy i (l.take m) _ L w12 _ hu hIL h12 (fun ho L' w' hI' h' => ?_) (fun ho L' w' hJ h' => ?_)
     ·refine ⟨true,rfl,?_⟩
      rw [Bool.not_true,br_false]
      refine ih (l.drop (m + 1)) (i + 1) k L' w' K0 Kr (by simp; omega) (by simp; omega) (by simp; omega) ?_ ?_ hil hI' h' (fun j hj => ?_) hK hKr
      ·rw [← List.drop_drop,hls,hcut]
       rfl
      ·rw [htl,hcut]
      ·rcases Nat.lt_or_ge j i with h1 | h1
       ·exact hok j h1
       ·have : j = i := by omega
        subst this
        exact ho
     ·refine ⟨false,rfl,?_⟩
      rw [Bool.not_false,br_true]
      exact hKr _ L' w' i h' hok (.inl ⟨hil,ho⟩) hJ
    ·have hno : 10 ∉ l := ix_none (by omega)
     have hcut := cutL_none l hno
     refine h.ldS 0 rfl rfl ?_
     refine h.stc 0 rfl (by simp) fun w12 h12 => ?_
     have hlen2 : (cutL l0).1.length = i := by
      have := congrArg List.length hls
      rw [hcut] at this
      simp at this
      omega
     have htl2 : (cutL l0).2 = l := by rw [htl,hcut]
     have hz' := hz ⟨#[]⟩ L w12
     rw [htl2,hlen2] at hz'
     refine hz' _ hl0 hno hIL h12 fun L' w' hJ h' => ?_
     refine ⟨false,rfl,?_⟩
     rw [Bool.not_false,br_true]
     exact hKr _ L' w' i h' hok (.inr ⟨hlen2.symm,by rw [htl2]; exact hl0⟩) hJ
 refine loop l0.length l0 0 _ L0 w _ _ (Nat.le_refl _) (by omega) hlen (by simp) rfl (Nat.zero_le _) hI h (fun j hj => absurd hj (by omega)) (fun s L w' h1 h2 h3 h4 => ?_) (fun s L w' i h1 h2 h3 h4 => ?_)
 ·intro _
  exact ⟨by first | rfl | trivial,s,L,h1,.inl ⟨h2,h3,h4⟩⟩
 ·intro _
  exact ⟨by first | rfl | trivial,s,L,h1,.inr ⟨i,h2,h3,h4⟩⟩
end
end Go.Proofs.YtilenpnpnbdndaaGreatDoor
namespace Go.Sh
open Go
attribute [local instance] Esc.none
def vcRG (P : Program) (orc : Orc) (π : Path) (R : Rnd) (c : Code) (Q : Post) (t : Tm) (w : World) : Prop :=
 match c with
 | .seq (.seq a (.block i (.rangeFunc g ps _ _))) T =>
  vc P orc (0 :: 0 :: π) a (fun o t w => match o with
   | .normal => rgf P (ev t g) (fun vs w0 wb Kn Kx => bdv ps.toList vs t fun t => R t w0 wb Kn Kx) w (fun D w' => vc P orc (1 :: π) T (tl Q D) t w')
     (fun c D w' => jmp c i (tl Q D .ret t w') (vc P orc (1 :: π) T (tl Q D) t w'))
   | _ => False) t w
 | _ => False
section
variable {P : Program} {N : Fm} {t : Tm} {w : World}
theorem vcRG_sound (hm : P.follows .mixedOrders = true) {c0 : Code} {orc : Orc} (ho : OrcOk P N c0 orc) {π : Path} {R : Rnd} {c : Code} (hπ : getAt c0 π = c) (hok : okC P N c = true) {Q : Post} {ρ : Path} (hρ : ρ = 0 :: 1 :: 0 :: π)
  (hR : ∀ g ps as_ bd,getAt c0 ρ = .rangeFunc g ps as_ bd -> okC P N (.rangeFunc g ps as_ bd) = true -> ∀ t w wb Kn Kx,R t w wb Kn Kx -> W P N as_ (fun o t1 w1 => match o with | .normal => w1 = w /\ W P N bd (rndPost Kn Kx) t1 wb | _ => False) t w)
  (h : vcRG P orc π R c Q t w) : Wt P N c Q t w := by
 intro a ha
 unfold vcRG at h
 split at h
 ·rename_i a0 i g ps as_ bd T
  have hR := hR g ps as_ bd (by rw [hρ]; simp [getAt,hπ,child]) (by
   have : okC P N (.seq (.seq a0 (.block i (.rangeFunc g ps as_ bd))) T) = true := hok
   rw [okC,okC,Bool.and_eq_true,Bool.and_eq_true] at this
   exact this.1.2)
  simp only [okC,Bool.and_eq_true] at hok
  have ha0 := vc_sound hm ho a0 (0 :: 0 :: π) (by simp [getAt,hπ,child]) hok.1.1 _ t w h
  refine wpIn_seq (wpIn_seq (wpIn_mono (ha0 none [] a ha) fun e y w q => ?_))
  cases e with
  | normal =>
   obtain ⟨t,hM,h⟩ := q
   have hT : ∀ D w',vc P orc (1 :: π) T (tl Q D) t w' -> T.wpIn (fw none) 0 P (upT N Q) { y with defers := [{ target := .collected D,args := #[] }] } w' := fun D w' hv =>
    wpIn_mono ((vc_sound hm ho T (1 :: π) (by simp [getAt,hπ,child]) hok.2 _ t w' hv) none _ _ ⟨hM.1,rfl,hM.2.2⟩) tl_up
   refine wpIn_block (wp_rgf hM hok.1.2.1.1 hR h ?_ ?_)
   ·exact fun D w' hv => hT D w' hv
   ·intro c D w' hv
    unfold jmp at hv
    split at hv
    ·refine wpIn_ret ?_
     exact tl_up .ret _ _ ⟨t,⟨hM.1,rfl,hM.free.2.2⟩,hv⟩
    ·rename_i j
     split at hv
     ·rename_i hj
      rw [nbeq] at hj
      subst hj
      refine wpIn_exit ?_
      show if j = j then _ else _
      rw [if_pos rfl]
      exact hT D w' hv
     ·exact hv.elim
    ·exact hv.elim
  | exit i => obtain ⟨_,_,q⟩ := q; exact q.elim
  | ret => obtain ⟨_,_,q⟩ := q; exact q.elim
  | goto l => exact q.elim
  | panic c => exact q.2.elim
  | outgrown => exact q.elim
 ·exact h.elim
end
end Go.Sh
namespace Go.Proofs.YtilenpnpnbdndaaGreatDoor
open Go Go.Sh
set_option maxRecDepth 100000
set_option maxHeartbeats 4000000
attribute [local instance] Esc.none
noncomputable def F20_code : Code := Tryz.f20.body.getD .skip
theorem F20_code_ok : okC Tryz.prog Tryz.f20.ntmps F20_code = true := by kernel_rfl
def F20_1C (Kn : Value -> World -> Prop) (Kr : World -> Prop) : Post := fun o t w => match o with | .normal => Kn (t 6) w | .exit _ => (False) | .ret => Kr  w
def F20_1 (Kn : Value -> World -> Prop) (Kr : World -> Prop) (x2 : Value) (x3 : Value) (x4 : Value) (x6 : Value) (x56 : Value) (w : World) : Prop :=
 rdA x2 fun a1 => rdA x3 fun a2 => rdA x4 fun a3 => rdA x6 fun a4 => rdB x56 fun b5 => br b5 (drw w fun w6 => ∃ w7 : World,Pres w7 w6 /\ (ldI .i64 a4 w7 fun n8 => stcL a1 0 (R60.mk 0 0 0 0 0 0 0 0 0 0 0 0 0 0 0 0 0 0 0 0 0 0 0 0 0 0 0 0 0 0 0 0 0 0 0 0 0 0 false false false 0 0 0 0 0 0 0 0 0 0 0 0 0 0 0 0 0 0 0 0 0 0 0 0 0 0 0 0 0 0 0 0 0 0 0 0 0 0 false false false none 0 0).l w6 fun w9 => Pres w7 w9 /\ (stc a2 (.int .i64 n8) w9 fun w10 => stc a3 (.int .i64 250) w10 fun w11 => Kr w11))) (Kn (.pointer (some a4)) w)
def F20_1O (Q : Post) (t : Tm) (w : World) : Prop := F20_1 (fun y6 w => ∀ g,rsh [(6,(.one .adr))] (upds g [(6,y6)]) fun t => Q .normal t w) (fun w => ∀ g,rsh [] (upds g []) fun t => Q .ret t w) (t 2) (t 3) (t 4) (t 6) (t 56) w
theorem F20_1_step (Kn : Value -> World -> Prop) (Kr : World -> Prop) (t : Tm) (w : World) : (F20_1 Kn Kr (t 2) (t 3) (t 4) (t 6) (t 56) w) = rsh [(2,(.one .adr)),(3,(.one .adr)),(4,(.one .adr)),(6,(.one .adr)),(56,(.one .bool))] t (fun t => vc Tryz.prog (orcOf []) [1,0,1,1,1,0,1,0,1,0,1,1,1,1] (getAt F20_code [1,0,1,1,1,0,1,0,1,0,1,1,1,1]) (F20_1C Kn Kr) t w) := by kernel_rfl
theorem F20_1_ok : ∀ Q t w,F20_1O Q t w -> W Tryz.prog Tryz.f20.ntmps (getAt F20_code [1,0,1,1,1,0,1,0,1,0,1,1,1,1]) Q t w := by
 intro Q t w h
 unfold F20_1O at h
 rw [F20_1_step] at h
 refine (vc_sound mixed (orcNil F20_code) _ _ rfl (okC_at F20_code_ok [1,0,1,1,1,0,1,0,1,0,1,1,1,1]) _ _ _ (rsh_out h)).mono ?_
 intro o t w q
 cases o with
 | normal => exact out_ok [6] q
 | exit i => exact q.elim
 | ret => exact out_ok [] q
def F20_2C (Kn : World -> Prop) (Kr : World -> Prop) : Post := fun o _ w => match o with | .normal => Kn  w | .exit _ => (False) | .ret => Kr  w
def F20_2 (Kn : World -> Prop) (Kr : World -> Prop) (x2 : Value) (x3 : Value) (x4 : Value) (x5 : Value) (x6 : Value) (x9 : Value) (x10 : Value) (w : World) : Prop :=
 rdA x2 fun a1 => rdA x3 fun a2 => rdA x4 fun a3 => rdA x5 fun a4 => rdA x6 fun a5 => rdB x9 fun b6 => rdI .i64 x10 fun n7 => br (!b6) (F20_1 (fun y6_7 w9 => ∀ _g10 : Tm,rdA y6_7 fun a11 => ldI .i64 a11 w9 fun n12 => stc a11 (.int .i64 (IntKind.wrap .i64 (n12 + 1))) w9 fun w13 => Kn w13) (fun w15 => ∀ _g16 : Tm,Kr w15) (.pointer (some a1)) (.pointer (some a2)) (.pointer (some a3)) (.pointer (some a5)) (.bool true) w) (br (n7 != 0) (F20_1 (fun y6_16 w18 => ∀ _g19 : Tm,rdA y6_16 fun a20 => ldI .i64 a20 w18 fun n21 => stc a20 (.int .i64 (IntKind.wrap .i64 (n21 + 1))) w18 fun w22 => Kn w22) (fun w24 => ∀ _g25 : Tm,Kr w24) (.pointer (some a1)) (.pointer (some a2)) (.pointer (some a3)) (.pointer (some a5)) (.bool true) w) (ldC (a4.add 82) w fun _ l26n _ => F20_1 (fun y6_26 w28 => ∀ _g29 : Tm,rdA y6_26 fun a30 => ldI .i64 a30 w28 fun n31 => stc a30 (.int .i64 (IntKind.wrap .i64 (n31 + 1))) w28 fun w32 => Kn w32) (fun w34 => ∀ _g35 : Tm,Kr w34) (.pointer (some a1)) (.pointer (some a2)) (.pointer (some a3)) (.pointer (some a5)) (.bool (decide (((l26n : Int) : Int) > 65536))) w))
def F20_2O (Q : Post) (t : Tm) (w : World) : Prop := F20_2 (fun w => ∀ g,rsh [] (upds g []) fun t => Q .normal t w) (fun w => ∀ g,rsh [] (upds g []) fun t => Q .ret t w) (t 2) (t 3) (t 4) (t 5) (t 6) (t 9) (t 10) w
theorem F20_2_step (Kn : World -> Prop) (Kr : World -> Prop) (t : Tm) (w : World) : (F20_2 Kn Kr (t 2) (t 3) (t 4) (t 5) (t 6) (t 9) (t 10) w) = rsh [(2,(.one .adr)),(3,(.one .adr)),(4,(.one .adr)),(5,(.one .adr)),(6,(.one .adr)),(9,(.one .bool)),(10,(.one (.int .i64)))] t (fun t => vc Tryz.prog (orcOf [([1,0,1,1,1,0,1,0,1,0,1,1,1,1],F20_1O)]) [1,1,1,0,1,0,1,0,1,1,1,1] (getAt F20_code [1,1,1,0,1,0,1,0,1,1,1,1]) (F20_2C Kn Kr) t w) := by kernel_rfl
theorem F20_2_ok : ∀ Q t w,F20_2O Q t w -> W Tryz.prog Tryz.f20.ntmps (getAt F20_code [1,1,1,0,1,0,1,0,1,1,1,1]) Q t w := by
 intro Q t w h
 unfold F20_2O at h
 rw [F20_2_step] at h
 refine (vc_sound mixed (orcCons (π := [1,0,1,1,1,0,1,0,1,0,1,1,1,1]) F20_1_ok (orcNil F20_code)) _ _ rfl (okC_at F20_code_ok [1,1,1,0,1,0,1,0,1,1,1,1]) _ _ _ (rsh_out h)).mono ?_
 intro o t w q
 cases o with
 | normal => exact out_ok [] q
 | exit i => exact q.elim
 | ret => exact out_ok [] q
def F20_3C (Kr : Value -> Value -> Value -> World -> Prop) : Post := fun o t w => match o with | .normal => False | .exit _ => (False) | .ret => Kr (t 2) (t 3) (t 4) w
def F20_3r (Kn : World -> Prop) (Kx : Code -> World -> Prop) (x2 : Value) (x3 : Value) (x4 : Value) (x5 : Value) (x6 : Value) (x18 : Value) (w wb : World) : Prop :=
 rdA x2 fun a1 => rdA x3 fun a2 => rdA x4 fun a3 => rdA x5 fun a4 => rdA x6 fun a5 => rdS x18 fun s6 => (w = w /\ (Calls Tryz.prog 46 #[(.string s6),(.string ⟨#[10]⟩)] wb (en fun e8 w7 => ∃ s9,∃ b10,e8 = .returned (.tuple #[(.string s9),(.bool b10)]) /\ (ldI .i64 a5 w7 fun n11 => br (decide ((n11 : Int) < 2)) (drw w7 fun w12 => ∃ w13 : World,Pres w13 w12 /\ (ldI .i64 a5 w13 fun n14 => Calls Tryz.prog 16 #[(.string s9)] w12 (en fun e16 w15 => exR49 fun s17 => ∃ n18,e16 = .returned (.tuple #[s17.v,(.int .i64 n18)]) /\ (Pres w13 w15 /\ (ixA 41 2 (a4.add 0) n14 fun a19 => stcL a19 0 s17.l w15 fun w20 => F20_2 (fun w22 => ∀ _g23 : Tm,Kn w22) (fun w25 => ∀ _g26 : Tm,Kx .ret w25) (.pointer (some a1)) (.pointer (some a2)) (.pointer (some a3)) (.pointer (some a4)) (.pointer (some a5)) (.bool b10) (.int .i64 n18) w20))))) (alc (.cells ((R26.mk 0 0 0 0 0 0 0 0 0 false none 0 0 ⟨#[]⟩)).c 27) w7 fun b27 w28 => Calls Tryz.prog 10 #[(.string s9)] w28 (en fun e30 w29 => exR26 fun s31 => ∃ n32,e30 = .returned (.tuple #[s31.v,(.int .i64 n32)]) /\ (stcL (Addr.mk b27 0 none) 0 s31.l w29 fun w33 => ldC (a4.add 82) w33 fun l34a l34n l34c => ldR26 (Addr.mk b27 0 none) w33 fun s35 => alc (.cells s35.c 27) w33 fun b36 w37 => ∃ l38a l38n l38c w39,Sem.run Tryz.prog (Builtin.append_ #[59,59] 59 #[(.slice l34a l34n l34c),(.slice (some (Addr.mk b36 0 none)) 1 1)]) w37 = .ok (.slice l38a l38n l38c) w39 /\ (stc (a4.add 82) (.slice l38a l38n l38c) w39 fun w40 => F20_2 (fun w42 => ∀ _g43 : Tm,Kn w42) (fun w45 => ∀ _g46 : Tm,Kx .ret w45) (.pointer (some a1)) (.pointer (some a2)) (.pointer (some a3)) (.pointer (some a4)) (.pointer (some a5)) (.bool b10) (.int .i64 n32) w40))))))))
theorem F20_3r_step (Kn : World -> Prop) (Kx : Code -> World -> Prop) (t : Tm) (w wb : World) : (F20_3r Kn Kx (t 2) (t 3) (t 4) (t 5) (t 6) (t 18) w wb) = rsh [(2,(.one .adr)),(3,(.one .adr)),(4,(.one .adr)),(5,(.one .adr)),(6,(.one .adr)),(18,(.one .str))] t (fun t => vcR Tryz.prog (orcOf [([1,0,1,1,1,0,1,0,1,0,1,1,1,1],F20_1O),([1,1,1,0,1,0,1,0,1,1,1,1],F20_2O)]) [0,1,0,1,1,1,1] (getAt F20_code [0,1,0,1,1,1,1]) Kn Kx t w wb) := by kernel_rfl
def F20_3rO (t : Tm) (w wb : World) (Kn : World -> Prop) (Kx : Code -> World -> Prop) : Prop := F20_3r Kn Kx (t 2) (t 3) (t 4) (t 5) (t 6) (t 18) w wb
def F20_3 (Kr : Value -> Value -> Value -> World -> Prop) (x0 : Value) (x2 : Value) (x3 : Value) (x4 : Value) (x5 : Value) (x6 : Value) (w : World) : Prop :=
 rdS x0 fun s1 => rdA x2 fun a2 => rdA x3 fun a3 => rdA x4 fun a4 => rdA x5 fun a5 => rdA x6 fun a6 => Calls Tryz.prog 45 #[(.string s1)] w (en fun e8 w7 => ∃ v9,e8 = .returned v9 /\ (rgf Tryz.prog v9 (fun vs10 w11 w12 Kn13 Kx14 => ∃ v15,vs10 = #[v15] /\ (F20_3r Kn13 Kx14 (.pointer (some a2)) (.pointer (some a3)) (.pointer (some a4)) (.pointer (some a5)) (.pointer (some a6)) v15 w11 w12)) w7 (fun D16 w17 => ldI .i64 a6 w17 fun n18 => br (decide ((n18 : Int) < 2)) (drw w17 fun w19 => ∃ w20 : World,Pres w20 w19 /\ (ldI .i64 a6 w20 fun n21 => stcL a2 0 (R60.mk 0 0 0 0 0 0 0 0 0 0 0 0 0 0 0 0 0 0 0 0 0 0 0 0 0 0 0 0 0 0 0 0 0 0 0 0 0 0 false false false 0 0 0 0 0 0 0 0 0 0 0 0 0 0 0 0 0 0 0 0 0 0 0 0 0 0 0 0 0 0 0 0 0 0 0 0 0 0 false false false none 0 0).l w19 fun w22 => Pres w20 w22 /\ (stc a3 (.int .i64 n21) w22 fun w23 => stc a4 (.int .i64 250) w23 fun w24 => w24.heap[D16]? = some (.deferred (some [])) /\ (Kr (.pointer (some a2)) (.pointer (some a3)) (.pointer (some a4)) (w24.putObj D16 (.deferred none)))))) (ldR60 a5 w17 fun s25 => stcL a2 0 s25.l w17 fun w26 => stc a3 (.int .i64 0) w26 fun w27 => stc a4 (.int .i64 0) w27 fun w28 => w28.heap[D16]? = some (.deferred (some [])) /\ (Kr (.pointer (some a2)) (.pointer (some a3)) (.pointer (some a4)) (w28.putObj D16 (.deferred none))))) (fun c29 D30 w31 => jmp c29 0 (w31.heap[D30]? = some (.deferred (some [])) /\ (Kr (.pointer (some a2)) (.pointer (some a3)) (.pointer (some a4)) (w31.putObj D30 (.deferred none)))) (ldI .i64 a6 w31 fun n32 => br (decide ((n32 : Int) < 2)) (drw w31 fun w33 => ∃ w34 : World,Pres w34 w33 /\ (ldI .i64 a6 w34 fun n35 => stcL a2 0 (R60.mk 0 0 0 0 0 0 0 0 0 0 0 0 0 0 0 0 0 0 0 0 0 0 0 0 0 0 0 0 0 0 0 0 0 0 0 0 0 0 false false false 0 0 0 0 0 0 0 0 0 0 0 0 0 0 0 0 0 0 0 0 0 0 0 0 0 0 0 0 0 0 0 0 0 0 0 0 0 0 false false false none 0 0).l w33 fun w36 => Pres w34 w36 /\ (stc a3 (.int .i64 n35) w36 fun w37 => stc a4 (.int .i64 250) w37 fun w38 => w38.heap[D30]? = some (.deferred (some [])) /\ (Kr (.pointer (some a2)) (.pointer (some a3)) (.pointer (some a4)) (w38.putObj D30 (.deferred none)))))) (ldR60 a5 w31 fun s39 => stcL a2 0 s39.l w31 fun w40 => stc a3 (.int .i64 0) w40 fun w41 => stc a4 (.int .i64 0) w41 fun w42 => w42.heap[D30]? = some (.deferred (some [])) /\ (Kr (.pointer (some a2)) (.pointer (some a3)) (.pointer (some a4)) (w42.putObj D30 (.deferred none))))))))
theorem F20_3_step (Kr : Value -> Value -> Value -> World -> Prop) (t : Tm) (w : World) : (F20_3 Kr (t 0) (t 2) (t 3) (t 4) (t 5) (t 6) w) = rsh [(0,(.one .str)),(2,(.one .adr)),(3,(.one .adr)),(4,(.one .adr)),(5,(.one .adr)),(6,(.one .adr))] t (fun t => vcRG Tryz.prog (orcOf [([1,0,1,1,1,0,1,0,1,0,1,1,1,1],F20_1O),([1,1,1,0,1,0,1,0,1,1,1,1],F20_2O)]) [1,1,1,1] F20_3rO (getAt F20_code [1,1,1,1]) (F20_3C Kr) t w) := by kernel_rfl
def F20_3O (Q : Post) (t : Tm) (w : World) : Prop := F20_3 (fun y2 y3 y4 w => ∀ g,rsh [(2,(.one .adr)),(3,(.one .adr)),(4,(.one .adr))] (upds g [(2,y2),(3,y3),(4,y4)]) fun t => Q .ret t w) (t 0) (t 2) (t 3) (t 4) (t 5) (t 6) w
theorem F20_3_ok : ∀ Q t w,F20_3O Q t w -> Wt Tryz.prog Tryz.f20.ntmps (getAt F20_code [1,1,1,1]) Q t w := by
 intro Q t w h
 unfold F20_3O at h
 rw [F20_3_step] at h
 refine (vcRG_sound mixed (orcCons (π := [1,0,1,1,1,0,1,0,1,0,1,1,1,1]) F20_1_ok (orcCons (π := [1,1,1,0,1,0,1,0,1,1,1,1]) F20_2_ok (orcNil F20_code))) (ρ := [0,1,0,1,1,1,1]) rfl (okC_at F20_code_ok [1,1,1,1]) rfl (fun g ps a0 bd hg hk t w wb Kn Kx h => ?_) (rsh_out h)).mono ?_
 ·unfold F20_3rO at h
  rw [F20_3r_step] at h
  exact vcR_sound mixed (orcCons (π := [1,0,1,1,1,0,1,0,1,0,1,1,1,1]) F20_1_ok (orcCons (π := [1,1,1,0,1,0,1,0,1,1,1,1]) F20_2_ok (orcNil F20_code))) hg hk (rsh_out h)
 ·intro o t w q
  cases o with
  | normal => exact q.elim
  | exit i => exact q.elim
  | ret => exact out_ok [2,3,4] q
def F20 (x0 : Value) (w : World) (K : Value -> World -> Prop) : Prop :=
 rdS x0 fun s1 => alc (.cells ((R60.mk 0 0 0 0 0 0 0 0 0 0 0 0 0 0 0 0 0 0 0 0 0 0 0 0 0 0 0 0 0 0 0 0 0 0 0 0 0 0 false false false 0 0 0 0 0 0 0 0 0 0 0 0 0 0 0 0 0 0 0 0 0 0 0 0 0 0 0 0 0 0 0 0 0 0 0 0 0 0 false false false none 0 0)).c 61) w fun b2 w3 => alc (.cells #[(.int .i64 0)] 3) w3 fun b4 w5 => alc (.cells #[(.int .i64 0)] 28) w5 fun b6 w7 => br (decide (((ByteArray.size s1 : Int) : Int) > 4194304)) (stcL (Addr.mk b2 0 none) 0 (R60.mk 0 0 0 0 0 0 0 0 0 0 0 0 0 0 0 0 0 0 0 0 0 0 0 0 0 0 0 0 0 0 0 0 0 0 0 0 0 0 false false false 0 0 0 0 0 0 0 0 0 0 0 0 0 0 0 0 0 0 0 0 0 0 0 0 0 0 0 0 0 0 0 0 0 0 0 0 0 0 false false false none 0 0).l w7 fun w8 => stc (Addr.mk b4 0 none) (.int .i64 0) w8 fun w9 => stc (Addr.mk b6 0 none) (.int .i64 2) w9 fun w10 => ldR60 (Addr.mk b2 0 none) w10 fun s11 => ldI .i64 (Addr.mk b4 0 none) w10 fun n12 => ldI .i64 (Addr.mk b6 0 none) w10 fun n13 => K (.tuple #[s11.v,(.int .i64 n12),(.int .i64 n13)]) w10) (alc (.cells ((R60.mk 0 0 0 0 0 0 0 0 0 0 0 0 0 0 0 0 0 0 0 0 0 0 0 0 0 0 0 0 0 0 0 0 0 0 0 0 0 0 false false false 0 0 0 0 0 0 0 0 0 0 0 0 0 0 0 0 0 0 0 0 0 0 0 0 0 0 0 0 0 0 0 0 0 0 0 0 0 0 false false false none 0 0)).c 61) w7 fun b14 w15 => alc (.cells #[(.int .i64 0)] 3) w15 fun b16 w17 => stc (Addr.mk b16 0 none) (.int .i64 0) w17 fun w18 => F20_3 (fun y2_18 y3_18 y4_18 w20 => ∀ _g21 : Tm,rdA y2_18 fun a22 => rdA y3_18 fun a23 => rdA y4_18 fun a24 => ldR60 a22 w20 fun s25 => ldI .i64 a23 w20 fun n26 => ldI .i64 a24 w20 fun n27 => K (.tuple #[s25.v,(.int .i64 n26),(.int .i64 n27)]) w20) (.string s1) (.pointer (some (Addr.mk b2 0 none))) (.pointer (some (Addr.mk b4 0 none))) (.pointer (some (Addr.mk b6 0 none))) (.pointer (some (Addr.mk b14 0 none))) (.pointer (some (Addr.mk b16 0 none))) w18)
theorem F20_step (x0 : Value) (w : World) (K : Value -> World -> Prop) : (F20 x0 w K) = rsh [(0,(.one .str))] (args0 #[x0]) (fun t => vcS Tryz.prog (orcOf [([1,0,1,1,1,0,1,0,1,0,1,1,1,1],F20_1O),([1,1,1,0,1,0,1,0,1,1,1,1],F20_2O)]) F20_3O 4 [] F20_code (retQ Tryz.prog Tryz.f20 K) t w) := by kernel_rfl
theorem F20_ok {x0 : Value} {w : World} {K : Value -> World -> Prop} (h : F20 x0 w K) : Calls Tryz.prog 20 #[x0] w fun e w' => ∃ v,e = .returned v /\ K v w' := by
 rw [F20_step] at h
 exact calls_ofT (c := F20_code) Tryz.func20 rfl (nlt rfl) (vcS_sound mixed (orcCons (π := [1,0,1,1,1,0,1,0,1,0,1,1,1,1]) F20_1_ok (orcCons (π := [1,1,1,0,1,0,1,0,1,1,1,1]) F20_2_ok (orcNil F20_code))) (fun _ _ _ h => h) 4 [] F20_code rfl F20_code_ok (fun t w h => F20_3_ok _ t w h) _ _ (rsh_out h))
end Go.Proofs.YtilenpnpnbdndaaGreatDoor
