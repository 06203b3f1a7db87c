/- Own text: part of the shallow reading of the code and of the contracts that are proved over it. -/
import Derived.Test.YtilenpnpnbdndaaGreatDoorSuH
import Derived.Test.YtilenpnpnbdndaaGreatDoorShR
import Derived.KernelRfl
import Derived.Test.YtilenpnpnbdndaaGreatDoorSuB
import Derived.Test.YtilenpnpnbdndaaGreatDoorSrQ4
namespace Go.Proofs.YtilenpnpnbdndaaGreatDoor
open Go Go.Sh
set_option maxRecDepth 100000
attribute [local instance] Esc.none
def isNumB (o m : Nat) : It -> Bool
 | .num o' _ m' => o' == o && decide (m' <= m)
 | _ => false
theorem vtab_nums : ∀ t ∈ vtab,∀ it ∈ itemsOf t,(5 ∈ foot it -> isNumB 5 255 it = true) /\ (7 ∈ foot it -> isNumB 7 65535 it = true) /\ (8 ∈ foot it -> isNumB 8 4294967295 it = true) := by
 have : vtab.all (fun t => (itemsOf t).all fun it => (!(foot it).contains 5 || isNumB 5 255 it) && (!(foot it).contains 7 || isNumB 7 65535 it) && (!(foot it).contains 8 || isNumB 8 4294967295 it)) = true := by decide +kernel
 intro t ht it hi
 have h := List.all_eq_true.1 (List.all_eq_true.1 this t ht) it hi
 simp only [Bool.and_eq_true,Bool.or_eq_true,Bool.not_eq_true',List.contains_eq_mem,decide_eq_false_iff_not] at h
 exact ⟨fun hf => h.1.1.resolve_left (fun hn => hn hf),fun hf => h.1.2.resolve_left (fun hn => hn hf),fun hf => h.2.resolve_left (fun hn => hn hf)⟩
theorem okI_num {S : Sc} {it : It} {o m : Nat} (h : isNumB o m it = true) (ho : okI S it) : 0 <= iAt S.cs o /\ iAt S.cs o <= (m : Int) := by
 cases it with
 | num o' k m' =>
  simp [isNumB] at h
  obtain ⟨rfl,hm⟩ := h
  have h1 : 0 <= iAt S.cs o' /\ iAt S.cs o' <= (m' : Int) := ho
  omega
 | _ => cases h
theorem IsDeed.good {s : ByteArray} {R : R26} {dat : List UInt8} (h : IsDeed s R dat) : GoodD ⟨R.c,dat⟩ := by
 obtain ⟨t,h⟩ := h
 have main : ∀ o m,o ≠ 0 -> o ≠ 10 -> (R26.zz.c[o]?).map (fun v => match v with | .int _ n => n | _ => 0) = some 0 -> (∀ it ∈ itemsOf t,o ∈ foot it -> isNumB o m it = true) -> 0 <= iAt R.c o /\ iAt R.c o <= (m : Int) := by
  intro o m h0 h10 hz hnum
  rcases Classical.em (hasFoot t o) with ⟨it,hi,hf⟩ | hf
  ·exact okI_num (S := ⟨R.c,dat⟩) (hnum it hi hf) (h.ok it hi)
  ·have hc := h.away o h0 h10 hf
   have : iAt R.c o = 0 := by
    unfold iAt
    rw [hc]
    cases hz2 : R26.zz.c[o]? with
    | none => rfl
    | some v =>
     rw [hz2] at hz
     simp only [Option.map_some,Option.some.injEq] at hz
     cases v <;> first | exact hz | rfl
   omega
 exact ⟨main 5 255 (by decide) (by decide) rfl fun it hi hf => ((vtab_nums t h.mem it hi).1) hf,main 7 65535 (by decide) (by decide) rfl fun it hi hf => ((vtab_nums t h.mem it hi).2.1) hf,main 8 4294967295 (by decide) (by decide) rfl fun it hi hf => ((vtab_nums t h.mem it hi).2.2) hf⟩
theorem IsDeed.short {s : ByteArray} {R : R26} {dat : List UInt8} (h : IsDeed s R dat) : dat.length <= 65536 := by
 obtain ⟨t,h⟩ := h
 rcases Classical.em (hasFoot t 1000000) with ⟨it,hi,hf⟩ | hf
 ·have h1 := (vtab_dat t h.mem it hi).1 hf
  cases it with
  | dat o => exact h.ok _ hi
  | _ => cases h1
 ·rw [h.data hf]; simp
theorem zz_good : GoodC R49.zz.c := by
 refine ⟨⟨by decide,by decide⟩,⟨by decide,by decide⟩,⟨by decide,by decide⟩,⟨by decide,by decide⟩,⟨by decide,by decide⟩,⟨by decide,by decide⟩,rfl⟩
theorem ReadA.parts {s : ByteArray} {p q : R49} {ds : List Dd} {I E : Int} (h : ReadA s p q ds I E) : GoodC p.c /\ GoodC q.c /\ ds.length <= 4194304 /\ ∀ d ∈ ds,∃ t,IsDeed t d.1 d.2 := by
 rcases h with ⟨_,rfl,rfl,rfl,_⟩ | ⟨hs,⟨_,hl,_,hsc,_⟩ | ⟨i,_,_,rfl,rfl,rfl,_⟩⟩
 ·exact ⟨zz_good,zz_good,by simp,by simp⟩
 ·obtain ⟨_,_,hp⟩ := hsc.p (by omega)
  obtain ⟨_,_,hq⟩ := hsc.q (by omega)
  have hlen := hsc.len
  have hcl := (cutL_len (bl s)).2.2
  have hbl : (bl s).length = s.size := rfl
  refine ⟨GoodC.of hp.1 hp.2.1,GoodC.of hq.1 hq.2.1,by omega,fun d hd => ?_⟩
  obtain ⟨k,hk⟩ := List.getElem?_of_mem hd
  obtain ⟨u,_,hu⟩ := hsc.ds k d hk
  exact ⟨_,hu⟩
 ·exact ⟨zz_good,zz_good,by simp,by simp⟩
theorem sameDs_of : ∀ {ds es : List Dd},ds.length = es.length -> (∀ (k : Nat) d e,ds[k]? = some d -> es[k]? = some e -> sameB d.1 d.2 e.1 e.2 = true) -> sameDs ds es = true
 | [],[],_,_ => rfl
 | [],_ :: _,h,_ => by simp at h
 | _ :: _,[],h,_ => by simp at h
 | d :: ds,e :: es,h,hk => by
  rw [sameDs,hk 0 d e rfl rfl,Bool.true_and]
  exact sameDs_of (by simpa using h) fun k d' e' h1 h2 => hk (k + 1) d' e' h1 h2
theorem IsScr.one {ls : List (List UInt8)} {n : Nat} {p q p' q' : R49} {ds ds' : List Dd} (hn : 2 <= n) (h : IsScr ls n p q ds) (h' : IsScr ls n p' q' ds') : p = p' /\ q = q' /\ sameDs ds ds' = true := by
 obtain ⟨u,hu,hp⟩ := h.p (by omega)
 obtain ⟨u',hu',hp'⟩ := h'.p (by omega)
 rw [hu] at hu'
 cases hu'
 obtain ⟨v,hv,hq⟩ := h.q (by omega)
 obtain ⟨v',hv',hq'⟩ := h'.q (by omega)
 rw [hv] at hv'
 cases hv'
 refine ⟨hp.one hp',hq.one hq',sameDs_of (by rw [h.len,h'.len]) fun k d e h1 h2 => ?_⟩
 obtain ⟨x,hx,hd⟩ := h.ds k d h1
 obtain ⟨y,hy,he⟩ := h'.ds k e h2
 rw [hx] at hy
 cases hy
 exact sameB_iff.2 (hd.det he)
theorem ReadB.one {ls : List (List UInt8)} {tl : List UInt8} {p q p' q' : R49} {ds ds' : List Dd} {I I' E E' : Int} (h : ReadB ls tl p q ds I E) (h' : ReadB ls tl p' q' ds' I' E') : p = p' /\ q = q' /\ sameDs ds ds' = true /\ I = I' /\ E = E' := by
 have no : ∀ i : Nat,tl = [] -> 2 <= ls.length -> (∀ i,i < ls.length -> OkAt ls i) -> ¬ ((i < ls.length /\ ¬ OkAt ls i) \/ (i = ls.length /\ (tl ≠ [] \/ i < 2))) := by
  intro i h1 h2 h3 h4
  rcases h4 with ⟨h5,h6⟩ | ⟨h5,h6 | h6⟩
  ·exact h6 (h3 i h5)
  ·exact h6 h1
  ·omega
 rcases h with ⟨h1,h2,h3,h4,rfl,rfl⟩ | ⟨i,h1,h2,rfl,rfl,rfl,rfl,rfl⟩
 ·rcases h' with ⟨_,_,_,h4',rfl,rfl⟩ | ⟨i,_,h2',_⟩
  ·obtain ⟨e1,e2,e3⟩ := h4.one h2 h4'
   exact ⟨e1,e2,e3,rfl,rfl⟩
  ·exact absurd h2' (no i h1 h2 h3)
 ·rcases h' with ⟨h1',h2',h3',_⟩ | ⟨i',h1',h2',rfl,rfl,rfl,rfl,rfl⟩
  ·exact absurd h2 (no i h1' h2' h3')
  ·refine ⟨rfl,rfl,rfl,?_,rfl⟩
   have lt : ∀ i i' : Nat,((i < ls.length /\ ¬ OkAt ls i) \/ (i = ls.length /\ (tl ≠ [] \/ i < 2))) -> ((i' < ls.length /\ ¬ OkAt ls i') \/ (i' = ls.length /\ (tl ≠ [] \/ i' < 2))) -> (∀ j,j < i' -> OkAt ls j) -> ¬ i < i' := by
    intro i i' h2 h2' h1' hlt
    rcases h2 with ⟨_,h6⟩ | ⟨h5,_⟩
    ·exact h6 (h1' i hlt)
    ·rcases h2' with ⟨h7,_⟩ | ⟨h7,_⟩ <;> omega
   have a1 := lt i i' h2 h2' h1'
   have a2 := lt i' i h2' h2 h1
   have : i = i' := by omega
   rw [this]
theorem ReadA.one {s : ByteArray} {p q p' q' : R49} {ds ds' : List Dd} {I I' E E' : Int} (h : ReadA s p q ds I E) (h' : ReadA s p' q' ds' I' E') : p = p' /\ q = q' /\ sameDs ds ds' = true /\ I = I' /\ E = E' := by
 rcases h with ⟨h0,rfl,rfl,rfl,rfl,rfl⟩ | ⟨h0,h⟩
 ·rcases h' with ⟨_,rfl,rfl,rfl,rfl,rfl⟩ | ⟨h0',_⟩
  ·exact ⟨rfl,rfl,rfl,rfl,rfl⟩
  ·omega
 ·rcases h' with ⟨h0',_⟩ | ⟨_,h'⟩
  ·omega
  ·exact h.one h'
section
variable {W w : World} {M : List HP} {p q : R49} {a : Option Addr} {c : Nat} {ds : List Dd} {s : ByteArray} {I E : Int}
theorem scr_of (h : Hs W (slP 27 12 a ds.length c (ds.flatMap fun d => d.1.l) :: (ds.reverse.map (fun d => dtP W d.1.c d.2) ++ M)) w) (hA : ReadA s p q ds I E) : ScrOk w p q a ds := by
 obtain ⟨hp,hq,_,hd⟩ := hA.parts
 refine ⟨hp,hq,h.rd 0 rfl,fun d h => (hd d h).elim fun _ h => h.good,fun d hm => ?_,fun d h => (hd d h).elim fun _ h => by have := h.short; omega⟩
 have hmem : dtP W d.1.c d.2 ∈ ds.reverse.map (fun d => dtP W d.1.c d.2) ++ M := List.mem_append_left _ (List.mem_map.2 ⟨d,by simpa using hm,rfl⟩)
 obtain ⟨i,hi⟩ := List.getElem?_of_mem hmem
 exact dt_holds (h.drop.focus hi)
theorem c6 (hT : TB w) : Calls Tryz.prog 6 #[.string s] w (rt fun v w' => v = .bool true /\ Same w w') := by
 refine F6_ok ?_
 unfold F6
 simp only [rdS_mk]
 refine cl (c20 hT (Hs.start w)) ?_
 rintro _ w2 ⟨p,q,a,c,ds,I,E,rfl,hA,h2⟩
 refine exR60_of (mk60 p q a ds.length c) ⟨_,_,rfl,h2.alc fun b7 w8 h8 => h8.stcL 0 rfl (by rfl) fun w9 h9 => ?_⟩
 have h9 : Hs w (pt b7 (.cells (mk60 p q a ds.length c).c 61 (0,0)) :: slP 27 12 a ds.length c (ds.flatMap fun d => d.1.l) :: (ds.reverse.map (fun d => dtP w d.1.c d.2) ++ [])) w9 := h9
 refine cl (c21 hT h9) ?_
 rintro _ w10 ⟨p',q',a',c',es,I',E',rfl,hA',h10⟩
 refine exR60_of (mk60 p' q' a' es.length c') ⟨_,_,rfl,h10.alc fun b15 w16 h16 => h16.stcL 0 rfl (by rfl) fun w17 h17 => ?_⟩
 have h17 : Hs w (pt b15 (.cells (mk60 p' q' a' es.length c').c 61 (0,0)) :: slP 27 12 a' es.length c' (es.flatMap fun d => d.1.l) :: (es.reverse.map (fun d => dtP w d.1.c d.2) ++ (pt b7 (.cells (mk60 p q a ds.length c).c 61 (0,0)) :: slP 27 12 a ds.length c (ds.flatMap fun d => d.1.l) :: (ds.reverse.map (fun d => dtP w d.1.c d.2) ++ [])))) w17 := h17
 have hb := h17.drop.drop.dropL
 refine ldR60_of (s := mk60 p q a ds.length c) (hb.atL 0 rfl) (ldR60_of (s := mk60 p' q' a' es.length c') (h17.atL 0 rfl) ?_)
 refine cl (c22 (scr_of hb.drop hA) (scr_of h17.drop hA') (by have := hA.parts.2.2.1; omega)) ?_
 rintro _ w20 ⟨rfl,hs20⟩
 obtain ⟨rfl,rfl,hsm,rfl,rfl⟩ := hA.one hA'
 have hsF : sameF p q ds p q es = true := by
  unfold sameF
  rw [eqvs_self (m49 p),eqvs_self (m49 q),hsm]
  rfl
 have en : ∀ n : Int,(n == n) = true := fun n => by simp
 refine ⟨_,rfl,?_⟩
 rw [hsF,br_true,en,br_true,en,br_true]
 have h20 := h17.same hs20
 refine cl (c13 (hT.same h20.old)) ?_
 rintro _ w23 ⟨rfl,hs23⟩
 exact ⟨_,rfl,by first | rfl | trivial,(h20.same hs23).old⟩
end
end Go.Proofs.YtilenpnpnbdndaaGreatDoor
namespace Go.Proofs.YtilenpnpnbdndaaGreatDoor
open Go Go.Sh
set_option maxRecDepth 100000
theorem dec_nl (u : Nat) : 10 ∉ Lib.decDigits u := by
 induction u using Nat.strongRecOn with
 | _ u ih =>
  intro hb
  by_cases h : u < 10
  ·rw [Lib.decDigits,dif_pos h] at hb
   have := congrArg UInt8.toNat (List.mem_singleton.1 hb)
   rw [dec_one h] at this
   have : 10 = 48 + u := this
   omega
  ·rw [Lib.decDigits,dif_neg h] at hb
   rcases List.mem_append.1 hb with hb | hb
   ·exact ih (u / 10) (by omega) hb
   ·have := congrArg UInt8.toNat (List.mem_singleton.1 hb)
    rw [dec_one (Nat.mod_lt _ (by omega))] at this
    have : 10 = 48 + u % 10 := this
    omega
theorem hxd_nl : ∀ b : Fin 16,hxd b.val ≠ 10 := by decide +kernel
theorem hexs_nl : ∀ (l : List UInt8),10 ∉ hexs l
 | [] => by simp [hexs_nil]
 | b :: l => by
  have hb := b.toNat_lt
  have h1 := hxd_nl ⟨b.toNat / 16,by omega⟩
  have h2 := hxd_nl ⟨b.toNat % 16,by omega⟩
  simp only at h1 h2
  rw [hexs_cons]
  simp [hexs_nl l,Ne.symm h1,Ne.symm h2]
theorem hexW_nl (l : List UInt8) : 10 ∉ hexW l := by
 unfold hexW
 split
 ·simp
 ·exact hexs_nl l
def nlIt : It -> Bool
 | .lit x => !(bl x).contains 10
 | .flag _ a b => !(bl a).contains 10 && !(bl b).contains 10
 | _ => true
theorem wd_nl {s : Sc} {it : It} (h : nlIt it = true) : 10 ∉ bl (wd s it) := by
 cases it with
 | lit x => show 10 ∉ bl x; simpa [nlIt] using h
 | num o k m =>
  show 10 ∉ bl (bs _)
  rw [bl_bs]
  exact dec_nl _
 | flag o a b =>
  simp only [nlIt,Bool.and_eq_true] at h
  show 10 ∉ bl (if bAt s.cs o then b else a)
  split
  ·have := h.2; simpa using this
  ·have := h.1; simpa using this
 | key => show 10 ∉ bl (bs _); rw [bl_bs]; exact hexW_nl _
 | dat o => show 10 ∉ bl (bs _); rw [bl_bs]; exact hexW_nl _
 | why o => show 10 ∉ bl (bs _); rw [bl_bs]; exact hexW_nl _
theorem join_nl : ∀ (l : List (List UInt8)),(∀ x ∈ l,10 ∉ x) -> 10 ∉ Lib.join l [32]
 | [],_ => by simp [Lib.join]
 | [x],h => by simpa [Lib.join] using h x (by simp)
 | x :: y :: r,h => by
  have ih := join_nl (y :: r) fun z hz => h z (by simp [hz])
  have hx := h x (by simp)
  have e : Lib.join (x :: y :: r) [32] = x ++ ([32] ++ Lib.join (y :: r) [32]) := by simp [Lib.join,List.intercalate]
  rw [e]
  intro hm
  rcases List.mem_append.1 hm with h1 | h1
  ·exact hx h1
  ·rcases List.mem_append.1 h1 with h2 | h2
   ·simp at h2
   ·exact ih h2
theorem lineOf_nl {its : List It} {s : Sc} (h : its.all nlIt = true) : 10 ∉ bl (lineOf its s) := by
 unfold lineOf joined
 rw [bl_bs]
 refine join_nl _ fun x hx => ?_
 rw [List.map_map] at hx
 obtain ⟨it,hi,rfl⟩ := List.mem_map.1 hx
 exact wd_nl (List.all_eq_true.1 h it hi)
theorem conf_nl : confItems.all nlIt = true := by decide +kernel
theorem vtab_nl : ∀ t ∈ vtab,(itemsOf t).all nlIt = true := by
 have : vtab.all (fun t => (itemsOf t).all nlIt) = true := by decide +kernel
 exact fun t ht => List.all_eq_true.1 this t ht
theorem lineS_nl (d : Dd) : 10 ∉ bl (lineS d) := by
 unfold lineS
 split
 ·rename_i h
  exact lineOf_nl (vtab_nl _ h.choose_spec.mem)
 ·simp [bl]
theorem confS_nl (R : R49) : 10 ∉ bl (confS R) := by
 unfold confS
 split
 ·exact lineOf_nl conf_nl
 ·simp [bl]
def unl (ls : List (List UInt8)) : List UInt8 := ls.flatMap fun u => u ++ [10]
theorem cutL_unl : ∀ {ls : List (List UInt8)},(∀ u ∈ ls,10 ∉ u) -> cutL (unl ls) = (ls,[])
 | [],_ => rfl
 | u :: ls,h => by
  have e : unl (u :: ls) = u ++ 10 :: unl ls := by simp [unl]
  rw [e,cutL_cut _ _ (h u (by simp)),cutL_unl fun v hv => h v (by simp [hv])]
theorem cutL_back : ∀ l : List UInt8,l = unl (cutL l).1 ++ (cutL l).2
 | [] => rfl
 | c :: l => by
  have ih := cutL_back l
  unfold cutL
  split
  ·rename_i h
   subst h
   conv => lhs; rw [ih]
   simp [unl]
  ·split
   ·rename_i t e
    rw [e] at ih
    rw [ih]
    simp [unl]
   ·rename_i x xs t e
    rw [e] at ih
    conv => lhs; rw [ih]
    simp [unl]
noncomputable def flatS (ds : List Dd) : List UInt8 := ds.flatMap fun d => bl (lineS d) ++ [10]
theorem gather_ge : ∀ (ds : List Dd) (b : List UInt8),b.length <= (gather ds b).length
 | [],_ => Nat.le_refl _
 | d :: ds,b => by
  rw [gather]
  refine Nat.le_trans ?_ (gather_ge ds _)
  split
  ·simp
  ·exact Nat.le_refl _
theorem gather_flat : ∀ (ds : List Dd) (b : List UInt8),(gather ds b).length <= 4194304 -> gather ds b = b ++ flatS ds
 | [],b,_ => by simp [gather,flatS]
 | d :: ds,b,h => by
  rw [gather] at h ⊢
  by_cases hb : b.length <= 4194304
  ·rw [if_pos hb] at h ⊢
   rw [gather_flat ds _ h]
   simp [flatS]
  ·rw [if_neg hb] at h
   have := gather_ge ds b
   omega
theorem flat_gather : ∀ (ds : List Dd) (b : List UInt8),(b ++ flatS ds).length <= 4194304 -> gather ds b = b ++ flatS ds
 | [],b,_ => by simp [gather,flatS]
 | d :: ds,b,h => by
  have e : b ++ flatS (d :: ds) = (b ++ (bl (lineS d) ++ [10])) ++ flatS ds := by simp [flatS]
  rw [gather,if_pos (by rw [List.length_append] at h; omega),e]
  rw [e] at h
  exact flat_gather ds _ h
theorem badAt_none : ∀ {ds : List Dd} {i : Nat},badAt ds i = none ↔ ∀ d ∈ ds,lineE d = 0
 | [],_ => by simp [badAt]
 | d :: ds,i => by
  rw [badAt]
  by_cases h : lineE d = 0
  ·rw [if_pos h,badAt_none]
   simp [h]
  ·rw [if_neg h]
   simp [h]
theorem lineE_deed {d : Dd} (h : lineE d = 0) : IsDeed (lineS d) d.1 d.2 := by
 rcases lineA_fn d with ⟨t,ht,hS,_⟩ | ⟨_,_,hN⟩
 ·rw [hS]; exact ⟨t,ht.deed⟩
 ·rw [hN] at h; cases h
theorem deed_lineE {s : ByteArray} {d : Dd} (h : IsDeed s d.1 d.2) : lineE d = 0 /\ lineS d = s := by
 obtain ⟨t,h⟩ := h
 obtain ⟨h1,h2⟩ := h.lineOk
 have hA : LineA d.1 d.2 s 0 := .inl ⟨t,h1,h2.symm,rfl⟩
 obtain ⟨e1,e2⟩ := hA.fn
 exact ⟨e2.symm,e1.symm⟩
theorem confE_conf {R : R49} (hG : GoodC R.c) (h : confE R = 0) : IsConf (confS R) R := by
 rcases setA_fn R with ⟨ho,hS,_⟩ | ⟨_,_,hN⟩
 ·rw [hS]; exact conf_back hG ho
 ·rw [hN] at h; cases h
theorem conf_confE {s : ByteArray} {R : R49} (h : IsConf s R) : confE R = 0 /\ confS R = s := by
 have hA : SetA R s 0 := .inl ⟨h.2.1,(conf_loose h).2.2.symm,rfl⟩
 obtain ⟨e1,e2⟩ := hA.fn
 exact ⟨e2.symm,e1.symm⟩
noncomputable def lsOf (p q : R49) (ds : List Dd) : List (List UInt8) := bl (confS p) :: bl (confS q) :: ds.map fun d => bl (lineS d)
theorem lsOf_unl (p q : R49) (ds : List Dd) : unl (lsOf p q ds) = headB p q ++ flatS ds := by
 simp [unl,lsOf,headB,flatS,List.flatMap_map]
theorem print_read {p q : R49} {ds : List Dd} {t : ByteArray} {I : Int} (hp : GoodC p.c) (hq : GoodC q.c) (h : printF p q ds = (t,I,0)) : ReadA t p q ds 0 0 := by
 unfold printF at h
 split at h
 ·cases h
 rename_i hc
 have hc1 : confE p = 0 := Classical.byContradiction fun h => hc (.inl h)
 have hc2 : confE q = 0 := Classical.byContradiction fun h => hc (.inr h)
 unfold tailF at h
 split at h
 ·cases h
 rename_i hlen
 cases hbad : badAt ds 0 with
 | some i => rw [hbad] at h; cases h
 | none =>
  rw [hbad] at h
  simp only at h
  split at h
  ·cases h
  rename_i hlong
  have ht : t = bs (gather ds (headB p q)) := (congrArg Prod.fst h).symm
  rw [gather_flat _ _ (by omega),← lsOf_unl] at ht
  have hsz : (gather ds (headB p q)).length <= 4194304 := by omega
  rw [gather_flat _ _ hsz,← lsOf_unl] at hsz
  have hall := badAt_none.1 hbad
  have hcut : cutL (bl t) = (lsOf p q ds,[]) := by
   rw [ht,bl_bs]
   refine cutL_unl fun u hu => ?_
   rcases List.mem_cons.1 hu with rfl | hu
   ·exact confS_nl p
   rcases List.mem_cons.1 hu with rfl | hu
   ·exact confS_nl q
   obtain ⟨d,_,rfl⟩ := List.mem_map.1 hu
   exact lineS_nl d
  have hb : ∀ s : ByteArray,bs (bl s) = s := bs_bl
  refine .inr ⟨by rw [ht]; exact hsz,?_⟩
  rw [hcut]
  refine .inl ⟨rfl,by simp [lsOf],fun i hi => ?_,⟨fun _ => ⟨_,rfl,by rw [hb]; exact confE_conf hp hc1⟩,fun _ => ⟨_,rfl,by rw [hb]; exact confE_conf hq hc2⟩,by simp [lsOf],fun k d hd => ?_⟩,rfl,rfl⟩
  ·match i with
   | 0 => exact ⟨_,rfl,.inl ⟨by omega,p,by rw [hb]; exact confE_conf hp hc1⟩⟩
   | 1 => exact ⟨_,rfl,.inl ⟨by omega,q,by rw [hb]; exact confE_conf hq hc2⟩⟩
   | i + 2 =>
    have hi2 : i < ds.length := by simp [lsOf] at hi; omega
    refine ⟨bl (lineS ds[i]),by simp [lsOf,hi2],.inr ⟨by omega,by omega,ds[i].1,ds[i].2,?_⟩⟩
    rw [hb]
    exact lineE_deed (hall _ (List.getElem_mem _))
  ·refine ⟨bl (lineS d),by simp [lsOf,hd],?_⟩
   rw [hb]
   exact lineE_deed (hall d (List.mem_of_getElem? hd))
theorem read_print {p q : R49} {ds : List Dd} {t : ByteArray} {I : Int} (h : ReadA t p q ds I 0) : printF p q ds = (t,0,0) := by
 rcases h with ⟨_,_,_,_,_,h⟩ | ⟨hs,⟨htl,hl2,hok,hsc,_,_⟩ | ⟨_,_,_,_,_,_,_,h⟩⟩
 ·cases h
 ·obtain ⟨u,hu,hp⟩ := hsc.p (by omega)
  obtain ⟨v,hv,hq⟩ := hsc.q (by omega)
  obtain ⟨p0,ps⟩ := conf_confE hp
  obtain ⟨q0,qs⟩ := conf_confE hq
  have hlen := hsc.len
  have hback := cutL_back (bl t)
  obtain ⟨ls,hls⟩ : ∃ ls,ls = (cutL (bl t)).1 := ⟨_,rfl⟩
  rw [htl,List.append_nil] at hback
  rw [← hls] at hu hv hok hsc hl2 hlen hback
  have hall : ∀ d ∈ ds,lineE d = 0 := fun d hd => by
   obtain ⟨k,hk⟩ := List.getElem?_of_mem hd
   obtain ⟨x,_,hx⟩ := hsc.ds k d hk
   exact (deed_lineE hx).1
  have hmap : ls = lsOf p q ds := by
   apply List.ext_getElem?
   intro i
   match i with
   | 0 => rw [hu]; show some u = some (bl (confS p)); rw [ps,bl_bs]
   | 1 => rw [hv]; show some v = some (bl (confS q)); rw [qs,bl_bs]
   | i + 2 =>
    show ls[i + 2]? = (ds.map fun d => bl (lineS d))[i]?
    rw [List.getElem?_map]
    cases hd : ds[i]? with
    | none =>
     rw [List.getElem?_eq_none_iff] at hd
     rw [List.getElem?_eq_none (by omega)]
     rfl
    | some d =>
     obtain ⟨x,hx,hx2⟩ := hsc.ds i d hd
     rw [hx]
     show some x = some (bl (lineS d))
     rw [(deed_lineE hx2).2,bl_bs]
  have htext : bl t = headB p q ++ flatS ds := by rw [hback,hmap,lsOf_unl]
  have hsz : (headB p q ++ flatS ds).length <= 4194304 := by rw [← htext]; exact hs
  have hmany : ds.length <= 65536 := by
   rcases Nat.eq_zero_or_pos ds.length with h0 | h0
   ·omega
   ·obtain ⟨x,_,h1 | h1⟩ := hok (ls.length - 1) (by omega)
    ·omega
    ·omega
  unfold printF tailF
  rw [if_neg (by simp [p0,q0]),if_neg (by omega),badAt_none.2 hall]
  simp only
  rw [flat_gather _ _ hsz,if_neg (by omega),← htext,bs_bl]
 ·cases h
end Go.Proofs.YtilenpnpnbdndaaGreatDoor
namespace Go.Proofs.YtilenpnpnbdndaaGreatDoor
open Go Go.Sh
set_option maxRecDepth 100000
set_option maxHeartbeats 4000000
attribute [local instance] Esc.none
noncomputable def F5_code : Code := Tryz.f5.body.getD .skip
theorem F5_code_ok : okC Tryz.prog Tryz.f5.ntmps F5_code = true := by kernel_rfl
def F5 (x0 : Value) (w : World) (K : Value -> World -> Prop) : Prop :=
 exR60 fun s1 => x0 = s1.v /\ (alc (.cells s1.c 61) w fun b2 w3 => ldR60 (Addr.mk b2 0 none) w3 fun s4 => Calls Tryz.prog 18 #[s4.v] w3 (en fun e6 w5 => ∃ s7,∃ n8,∃ n9,e6 = .returned (.tuple #[(.string s7),(.int .i64 n8),(.int .i64 n9)]) /\ (ldR60 (Addr.mk b2 0 none) w5 fun s10 => Calls Tryz.prog 19 #[s10.v] w5 (en fun e12 w11 => ∃ s13,∃ n14,∃ n15,e12 = .returned (.tuple #[(.string s13),(.int .i64 n14),(.int .i64 n15)]) /\ (br (ByteArray.toList s7 == ByteArray.toList s13) (br (n8 == n14) (br (n9 == n15) (Calls Tryz.prog 13 #[] w11 (en fun e17 w16 => ∃ b18,e17 = .returned (.bool b18) /\ (K (.bool b18) w16))) (K (.bool false) w11)) (K (.bool false) w11)) (K (.bool false) w11))))))
theorem F5_step (x0 : Value) (w : World) (K : Value -> World -> Prop) : (F5 x0 w K) = rsh [(0,(.agg [(.int .u8),(.int .u8),(.int .u8),(.int .u8),(.int .u8),(.int .u8),(.int .u8),(.int .u8),(.int .u8),(.int .u8),(.int .u8),(.int .u8),(.int .u8),(.int .u8),(.int .u8),(.int .u8),(.int .u64),(.int .i64),(.int .u32),(.int .u16),(.int .u16),(.int .i64),(.int .i64),(.int .u16),(.int .u16),(.int .i64),(.int .i64),(.int .i64),(.int .i64),(.int .i64),(.int .i64),(.int .i64),(.int .i64),(.int .i64),(.int .i64),(.int .i64),(.int .i64),(.int .i64),.bool,.bool,.bool,(.int .u8),(.int .u8),(.int .u8),(.int .u8),(.int .u8),(.int .u8),(.int .u8),(.int .u8),(.int .u8),(.int .u8),(.int .u8),(.int .u8),(.int .u8),(.int .u8),(.int .u8),(.int .u8),(.int .u64),(.int .i64),(.int .u32),(.int .u16),(.int .u16),(.int .i64),(.int .i64),(.int .u16),(.int .u16),(.int .i64),(.int .i64),(.int .i64),(.int .i64),(.int .i64),(.int .i64),(.int .i64),(.int .i64),(.int .i64),(.int .i64),(.int .i64),(.int .i64),(.int .i64),.bool,.bool,.bool,.slc]))] (args0 #[x0]) (fun t => vc Tryz.prog (orcOf []) [] F5_code (retQ Tryz.prog Tryz.f5 K) t w) := by kernel_rfl
theorem F5_ok {x0 : Value} {w : World} {K : Value -> World -> Prop} (h : F5 x0 w K) : Calls Tryz.prog 5 #[x0] w (rt K) := by
 rw [F5_step] at h
 exact Calls.mono (calls_of (c := F5_code) mixed Tryz.func5 rfl (nlt rfl) (vc_sound mixed (orcNil F5_code) F5_code [] rfl F5_code_ok _ _ _ (rsh_out h))) fun _ _ => rv_none
end Go.Proofs.YtilenpnpnbdndaaGreatDoor
namespace Go.Proofs.YtilenpnpnbdndaaGreatDoor
open Go Go.Sh
set_option maxRecDepth 100000
attribute [local instance] Esc.none
section
variable {W w : World} {M : List HP} {p q : R49} {a : Option Addr} {c : Nat} {ds : List Dd}
theorem put_cat {a2 : Option Addr} {b : List UInt8} {bc : Nat} {s : ByteArray} {K : Option Addr -> Nat -> Nat -> World -> Prop} (h : Hs W (slP 5 1 a2 b.length bc (u8v b) :: M) w) (hb : b.length + s.size + 1 <= 140737488355328) (hs : s.size <= 100000000)
  (hK : ∀ a' c' w',Hs W (slP 5 1 a' (b ++ (bl s ++ [10])).length c' (u8v (b ++ (bl s ++ [10]))) :: M) w' -> K a' (b ++ (bl s ++ [10])).length c' w') :
  cat s ⟨#[10]⟩ fun s10 => ∃ l11a l11n l11c w12,Sem.run Tryz.prog (Builtin.append_ #[25,9] 25 #[(.slice a2 b.length bc),(.string s10)]) w = .ok (.slice l11a l11n l11c) w12 /\ K l11a l11n l11c w12 := by
 have e1 : (bs (bl s ++ [10])).size = s.size + 1 := by
  show (bl s ++ [10]).length = _
  simp [bl_len]
 refine cat_of (by show s.size + 1 <= _; omega) ?_
 show ∃ l11a l11n l11c w12,Sem.run Tryz.prog (Builtin.append_ #[25,9] 25 #[(.slice a2 b.length bc),(.string (bs (bl s ++ [10])))]) w = .ok (.slice l11a l11n l11c) w12 /\ K l11a l11n l11c w12
 refine h.appendT E25 Tryz.underlying9 0 rfl (by omega) fun a3 c3 w3 h3 => ?_
 have h3 : Hs W (slP 5 1 a3 (b.length + (bs (bl s ++ [10])).size) c3 (u8v b ++ Lib.strCells (bs (bl s ++ [10]))) :: M) w3 := h3
 have e3 : u8v b ++ Lib.strCells (bs (bl s ++ [10])) = u8v (b ++ (bl s ++ [10])) := by rw [cells_u8v,u8v_app]; rfl
 have e2 : b.length + (bs (bl s ++ [10])).size = (b ++ (bl s ++ [10])).length := by rw [e1]; simp [bl_len]
 rw [e2,e3] at h3
 rw [e2]
 exact hK _ _ _ h3
theorem F19_1_loop {K2 : Value -> World -> Prop} {Kr : Value -> Value -> Value -> World -> Prop} {xb : Nat} (hT : TB W) (hS : ScrOk W p q a ds) (hn : ds.length <= 65536) :
  ∀ (ds2 ds1 : List Dd) (k : Nat) (ba : Option Addr) (bc : Nat) (b : List UInt8) (w : World),ds = ds1 ++ ds2 -> ds2.length < k -> b.length <= 20000000 -> Hs W (slP 5 1 ba b.length bc (u8v b) :: pt xb (.cells (mk60 p q a ds.length c).c 61 (0,0)) :: M) w ->
  (badAt ds2 ds1.length = none -> ∀ ba' bc' w',Hs W (slP 5 1 ba' (gather ds2 b).length bc' (u8v (gather ds2 b)) :: M) w' -> K2 (.slice ba' (gather ds2 b).length bc') w') ->
  (∀ (i : Nat) w',badAt ds2 ds1.length = some i -> Hs W M w' -> Kr (.string ⟨#[]⟩) (.int .i64 (i : Int)) (.int .i64 1) w') ->
  F19_1 K2 Kr k (.pointer (some ⟨xb,0,none⟩)) (.slice ba b.length bc) (.int .i64 (ds1.length : Int)) w := by
 intro ds2
 induction ds2 with
 | nil =>
  intro ds1 k ba bc b w hl hk hb h hK _
  obtain ⟨k,rfl⟩ : ∃ n,k = n + 1 := ⟨k - 1,by omega⟩
  show F19_1B _ _ _ _ _ _ _
  unfold F19_1B
  simp only [rdC_mk,rdI_mk,rdA_mk]
  refine ldC_c (at_d (h.atL 1 rfl)) ?_
  rw [List.append_nil] at hl
  rw [hl,decide_eq_false (by omega),br_false]
  exact hK rfl _ _ _ (h.erase 1)
 | cons d ds2 ih =>
  intro ds1 k ba bc b w hl hk hb h hK hKr
  obtain ⟨k,rfl⟩ : ∃ n,k = n + 1 := ⟨k - 1,by omega⟩
  have hlen : ds.length = ds1.length + (ds2.length + 1) := by rw [hl]; simp
  have hi : ds[ds1.length]? = some d := by rw [hl]; simp
  have hm : d ∈ ds := List.mem_of_getElem? hi
  show F19_1B _ _ _ _ _ _ _
  unfold F19_1B
  simp only [rdC_mk,rdI_mk,rdA_mk]
  refine ldC_c (at_d (h.atL 1 rfl)) ?_
  rw [decide_eq_true (by omega),br_true]
  refine ldC_c (at_d (h.atL 1 rfl)) ?_
  obtain ⟨ad,rfl,hat⟩ := hS.at h.1 hi
  refine ixS_to (p := ds1.length) rfl (by omega) ?_
  refine ldR26_of (s := d.1) hat ?_
  refine cl (line_callR hT h hS hm) ?_
  rintro _ w4 ⟨rfl,h5⟩
  refine ⟨_,_,rfl,?_⟩
  have e3 : IntKind.wrap .i64 ((ds1.length : Int) + 1) = (((ds1 ++ [d]).length : Nat) : Int) := by rw [wrap_i64 (by omega) (by omega)]; simp
  have el : (ds1 ++ [d]).length = ds1.length + 1 := by simp
  rcases lineE_01 d with he | he
  ·have e0 : ((0 : Int) != 0) = false := rfl
   rw [he,e0,br_false]
   have hbad : ∀ j,badAt (d :: ds2) j = badAt ds2 (j + 1) := fun j => by rw [badAt,if_pos he]
   by_cases hlong : b.length <= 4194304
   ·rw [decide_eq_true (by omega),br_true]
    have hls := lineS_size d
    refine put_cat h5 (by omega) (by omega) fun a6 c6 w6 h6 => ?_
    rw [e3]
    refine ih (ds1 ++ [d]) k a6 c6 _ w6 (by rw [hl]; simp) (by simp at hk; omega) (by have := put_len b d; omega) h6 (fun hb' => ?_) (fun i w' hb' => ?_)
    ·have := hK (by rw [hbad,← el]; exact hb')
     rwa [gather,if_pos hlong] at this
    ·exact hKr i w' (by rw [hbad,← el]; exact hb')
   ·rw [decide_eq_false (by omega),br_false,e3]
    refine ih (ds1 ++ [d]) k ba bc b w4 (by rw [hl]; simp) (by simp at hk; omega) hb h5 (fun hb' => ?_) (fun i w' hb' => ?_)
    ·have := hK (by rw [hbad,← el]; exact hb')
     rwa [gather,if_neg hlong] at this
    ·exact hKr i w' (by rw [hbad,← el]; exact hb')
  ·have e0 : ((1 : Int) != 0) = true := rfl
   rw [he,e0,br_true]
   exact hKr _ _ (by rw [badAt,if_neg (by rw [he]; decide)]) (h5.erase 0).drop
theorem F19_2_go {K0 : Value -> Value -> World -> Prop} {Kr : Value -> Value -> Value -> World -> Prop} {xb n : Nat} (hT : TB W) (hp : GoodC p.c) (hq : GoodC q.c) (h : Hs W (pt xb (.cells (mk60 p q a n c).c 61 (0,0)) :: M) w)
  (hK : confE p = 0 -> confE q = 0 -> ∀ ba' bc' w',Hs W (slP 5 1 ba' (headB p q).length bc' (u8v (headB p q)) :: pt xb (.cells (mk60 p q a n c).c 61 (0,0)) :: M) w' -> K0 (.pointer (some ⟨xb,0,none⟩)) (.slice ba' (headB p q).length bc') w')
  (hKr : (confE p ≠ 0 \/ confE q ≠ 0) -> ∀ w',Hs W M w' -> Kr (.string ⟨#[]⟩) (.int .i64 (-1)) (.int .i64 1) w') :
  ∃ k,F19_2 K0 Kr k (.pointer (some ⟨xb,0,none⟩)) (.slice none 0 0) (.int .i64 0) w := by
 refine ⟨3,?_⟩
 have e0 : ((0 : Int) != 0) = false := rfl
 have e1 : ((1 : Int) != 0) = true := rfl
 have sp := confS_size p
 have sq := confS_size q
 show F19_2B _ _ _ _ _ _ _
 unfold F19_2B
 simp only [rdC_mk,rdI_mk,rdA_mk]
 rw [decide_eq_true (by decide),br_true]
 have h1 := h.nil 5 1
 refine ⟨by decide,ldR49_of (s := p) (at_p (h.atL 0 rfl)) ?_⟩
 refine cl (conf_callR hT h1 hp) ?_
 rintro _ w4 ⟨rfl,h4⟩
 refine ⟨_,_,rfl,?_⟩
 have h5 : Hs W (slP 5 1 none (List.length ([] : List UInt8)) 0 (u8v []) :: pt xb (.cells (mk60 p q a n c).c 61 (0,0)) :: M) w4 := h4
 rcases confE_01 p with he | he
 ·rw [he,e0,br_false]
  refine put_cat (b := []) h5 (by simp; omega) (by omega) fun a6 c6 w6 h6 => ?_
  have e3 : IntKind.wrap .i64 ((0 : Int) + 1) = 1 := by rw [wrap_i64 (by omega) (by omega)]; rfl
  rw [e3]
  show F19_2B _ _ _ _ _ _ _
  unfold F19_2B
  simp only [rdC_mk,rdI_mk,rdA_mk]
  rw [decide_eq_true (by decide),br_true]
  refine ⟨by decide,ldR49_of (s := q) (at_q (h6.atL 1 rfl)) ?_⟩
  refine cl (conf_callR hT h6 hq) ?_
  rintro _ w9 ⟨rfl,h10⟩
  refine ⟨_,_,rfl,?_⟩
  rcases confE_01 q with he2 | he2
  ·rw [he2,e0,br_false]
   refine put_cat h10 (by simp [bl_len]; omega) (by omega) fun a11 c11 w11 h11 => ?_
   have e4 : IntKind.wrap .i64 ((1 : Int) + 1) = 2 := by rw [wrap_i64 (by omega) (by omega)]; rfl
   rw [e4]
   show F19_2B _ _ _ _ _ _ _
   unfold F19_2B
   simp only [rdC_mk,rdI_mk,rdA_mk]
   rw [decide_eq_false (by decide),br_false]
   exact hK he he2 _ _ _ h11
  ·rw [he2,e1,br_true]
   exact hKr (.inr (by rw [he2]; decide)) _ (h10.erase 0).drop
 ·rw [he,e1,br_true]
  exact hKr (.inl (by rw [he]; decide)) _ (h5.erase 0).drop
theorem c19 (hT : TB w) (hS : ScrOk w p q a ds) : Calls Tryz.prog 19 #[(mk60 p q a ds.length c).v] w (rt fun v w' => v = tup3 (printF p q ds) /\ Same w w') := by
 refine F19_ok ?_
 unfold F19
 refine exR60_of (mk60 p q a ds.length c) ⟨rfl,?_⟩
 refine (Hs.start w).alc fun b2 w3 h3 => ?_
 refine F19_2_go hT hS.gp hS.gq h3 (fun hp hq ba bc w4 h4 => ?_) (fun hbad w4 h4 => ?_)
 ·intro _
  simp only [rdA_mk,rdC_mk]
  refine ldC_c (at_d (h4.atL 1 rfl)) ?_
  have hpf : printF p q ds = tailF (headB p q) ds := by unfold printF; rw [if_neg (by simp [hp,hq])]
  refine br_dec.2 ⟨fun hl => ?_,fun hl => ?_⟩
  ·refine ⟨?_,h4.old⟩
   rw [hpf,tailF,if_pos (by omega)]
   rfl
  ·refine ⟨ds.length + 1,?_⟩
   refine F19_1_loop hT hS (by omega) ds [] _ ba bc _ w4 rfl (by omega) (headB_le p q) h4 (fun hn ba' bc' w5 h5 => ?_) (fun i w5 hi h5 => ?_)
   ·intro _
    simp only [rdC_mk]
    refine br_dec.2 ⟨fun hg => ⟨?_,h5.old⟩,fun hg => ?_⟩
    ·rw [hpf,tailF,if_neg (by omega),show badAt ds 0 = none from hn]
     simp only
     rw [if_pos (by omega)]
     rfl
    ·refine ⟨_,_,run_bs (h5.rd 0 rfl),?_,h5.old⟩
     rw [hpf,tailF,if_neg (by omega),show badAt ds 0 = none from hn]
     simp only
     rw [if_neg (by omega)]
     rfl
   ·intro _
    simp only [rdS_mk,rdI_mk]
    refine ⟨?_,h5.old⟩
    rw [hpf,tailF,if_neg (by omega),show badAt ds 0 = some i from hi]
    rfl
 ·intro _
  simp only [rdS_mk,rdI_mk]
  refine ⟨?_,h4.old⟩
  unfold printF
  rw [if_pos hbad]
  rfl
theorem c5 (hT : TB w) (hS : ScrOk w p q a ds) : Calls Tryz.prog 5 #[(mk60 p q a ds.length c).v] w (rt fun v w' => v = .bool true /\ Same w w') := by
 refine F5_ok ?_
 unfold F5
 refine exR60_of (mk60 p q a ds.length c) ⟨rfl,?_⟩
 refine (Hs.start w).alc fun b2 w3 h3 => ?_
 refine ldR60_of (s := mk60 p q a ds.length c) (h3.atL 0 rfl) ?_
 refine cl (c18 (hT.same h3.old) (hS.same h3.old)) ?_
 rintro _ w5 ⟨rfl,hs5⟩
 refine ⟨_,_,_,rfl,?_⟩
 have h5 := h3.same hs5
 refine ldR60_of (s := mk60 p q a ds.length c) (h5.atL 0 rfl) ?_
 refine cl (c19 (hT.same h5.old) (hS.same h5.old)) ?_
 rintro _ w6 ⟨rfl,hs6⟩
 refine ⟨_,_,_,rfl,?_⟩
 have h6 := h5.same hs6
 have en : ∀ n : Int,(n == n) = true := fun n => by simp
 rw [str_beq,decide_eq_true rfl,br_true,en,br_true,en,br_true]
 refine cl (c13 (hT.same h6.old)) ?_
 rintro _ w7 ⟨rfl,hs7⟩
 exact ⟨_,rfl,by first | rfl | trivial,(h6.same hs7).old⟩
end
end Go.Proofs.YtilenpnpnbdndaaGreatDoor
