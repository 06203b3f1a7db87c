/- Own text: part of the shallow reading of the code and of the contracts that are proved over it. -/
import Derived.Test.YtilenpnpnbdndaaGreatDoorSuH
import Derived.Test.YtilenpnpnbdndaaGreatDoorStWit
namespace Go.Proofs.YtilenpnpnbdndaaGreatDoor
open Go Go.Sh
set_option maxRecDepth 100000
attribute [local instance] Esc.none
def isNumB (o m : Nat) : It -> Bool
  | .num o' _ m' => o' == o && decide (m' <= m)
  | _ => false
theorem vtab_nums : ∀ t ∈ vtab,∀ it ∈ itemsOf t,(5 ∈ foot it -> isNumB 5 255 it = true) /\ (7 ∈ foot it -> isNumB 7 65535 it = true) /\ (8 ∈ foot it -> isNumB 8 4294967295 it = true) := by
  have : vtab.all (fun t => (itemsOf t).all fun it => (!(foot it).contains 5 || isNumB 5 255 it) && (!(foot it).contains 7 || isNumB 7 65535 it) && (!(foot it).contains 8 || isNumB 8 4294967295 it)) = true := by decide +kernel
  intro t ht it hi
  have h := List.all_eq_true.1 (List.all_eq_true.1 this t ht) it hi
  simp only [Bool.and_eq_true,Bool.or_eq_true,Bool.not_eq_true',List.contains_eq_mem,decide_eq_false_iff_not] at h
  exact ⟨fun hf => h.1.1.resolve_left (fun hn => hn hf),fun hf => h.1.2.resolve_left (fun hn => hn hf),fun hf => h.2.resolve_left (fun hn => hn hf)⟩
theorem okI_num {S : Sc} {it : It} {o m : Nat} (h : isNumB o m it = true) (ho : okI S it) : 0 <= iAt S.cs o /\ iAt S.cs o <= (m : Int) := by
  cases it with
  | num o' k m' =>
    simp [isNumB] at h
    obtain ⟨rfl,hm⟩ := h
    have h1 : 0 <= iAt S.cs o' /\ iAt S.cs o' <= (m' : Int) := ho
    omega
  | _ => cases h
theorem IsDeed.good {s : ByteArray} {R : R26} {dat : List UInt8} (h : IsDeed s R dat) : GoodD ⟨R.c,dat⟩ := by
  obtain ⟨t,h⟩ := h
  have main : ∀ o m,o ≠ 0 -> o ≠ 10 -> (R26.zz.c[o]?).map (fun v => match v with | .int _ n => n | _ => 0) = some 0 -> (∀ it ∈ itemsOf t,o ∈ foot it -> isNumB o m it = true) -> 0 <= iAt R.c o /\ iAt R.c o <= (m : Int) := by
    intro o m h0 h10 hz hnum
    rcases Classical.em (hasFoot t o) with ⟨it,hi,hf⟩ | hf
    · exact okI_num (S := ⟨R.c,dat⟩) (hnum it hi hf) (h.ok it hi)
    · have hc := h.away o h0 h10 hf
      have : iAt R.c o = 0 := by
        unfold iAt
        rw [hc]
        cases hz2 : R26.zz.c[o]? with
        | none => rfl
        | some v =>
          rw [hz2] at hz
          simp only [Option.map_some,Option.some.injEq] at hz
          cases v <;> first | exact hz | rfl
      omega
  exact ⟨main 5 255 (by decide) (by decide) rfl fun it hi hf => ((vtab_nums t h.mem it hi).1) hf,main 7 65535 (by decide) (by decide) rfl fun it hi hf => ((vtab_nums t h.mem it hi).2.1) hf,main 8 4294967295 (by decide) (by decide) rfl fun it hi hf => ((vtab_nums t h.mem it hi).2.2) hf⟩
theorem IsDeed.short {s : ByteArray} {R : R26} {dat : List UInt8} (h : IsDeed s R dat) : dat.length <= 65536 := by
  obtain ⟨t,h⟩ := h
  rcases Classical.em (hasFoot t 1000000) with ⟨it,hi,hf⟩ | hf
  · have h1 := (vtab_dat t h.mem it hi).1 hf
    cases it with
    | dat o => exact h.ok _ hi
    | _ => cases h1
  · rw [h.data hf]; simp
theorem zz_good : GoodC R49.zz.c := by
  refine ⟨⟨by decide,by decide⟩,⟨by decide,by decide⟩,⟨by decide,by decide⟩,⟨by decide,by decide⟩,⟨by decide,by decide⟩,⟨by decide,by decide⟩,rfl⟩
theorem ReadA.parts {s : ByteArray} {p q : R49} {ds : List Dd} {I E : Int} (h : ReadA s p q ds I E) : GoodC p.c /\ GoodC q.c /\ ds.length <= 4194304 /\ ∀ d ∈ ds,∃ t,IsDeed t d.1 d.2 := by
  rcases h with ⟨_,rfl,rfl,rfl,_⟩ | ⟨hs,⟨_,hl,_,hsc,_⟩ | ⟨i,_,_,rfl,rfl,rfl,_⟩⟩
  · exact ⟨zz_good,zz_good,by simp,by simp⟩
  · obtain ⟨_,_,hp⟩ := hsc.p (by omega)
    obtain ⟨_,_,hq⟩ := hsc.q (by omega)
    have hlen := hsc.len
    have hcl := (cutL_len (bl s)).2.2
    have hbl : (bl s).length = s.size := rfl
    refine ⟨GoodC.of hp.1 hp.2.1,GoodC.of hq.1 hq.2.1,by omega,fun d hd => ?_⟩
    obtain ⟨k,hk⟩ := List.getElem?_of_mem hd
    obtain ⟨u,_,hu⟩ := hsc.ds k d hk
    exact ⟨_,hu⟩
  · exact ⟨zz_good,zz_good,by simp,by simp⟩
theorem sameDs_of : ∀ {ds es : List Dd},ds.length = es.length -> (∀ (k : Nat) d e,ds[k]? = some d -> es[k]? = some e -> sameB d.1 d.2 e.1 e.2 = true) -> sameDs ds es = true
  | [],[],_,_ => rfl
  | [],_ :: _,h,_ => by simp at h
  | _ :: _,[],h,_ => by simp at h
  | d :: ds,e :: es,h,hk => by
    rw [sameDs,hk 0 d e rfl rfl,Bool.true_and]
    exact sameDs_of (by simpa using h) fun k d' e' h1 h2 => hk (k + 1) d' e' h1 h2
theorem IsScr.one {ls : List (List UInt8)} {n : Nat} {p q p' q' : R49} {ds ds' : List Dd} (hn : 2 <= n) (h : IsScr ls n p q ds) (h' : IsScr ls n p' q' ds') : p = p' /\ q = q' /\ sameDs ds ds' = true := by
  obtain ⟨u,hu,hp⟩ := h.p (by omega)
  obtain ⟨u',hu',hp'⟩ := h'.p (by omega)
  rw [hu] at hu'
  cases hu'
  obtain ⟨v,hv,hq⟩ := h.q (by omega)
  obtain ⟨v',hv',hq'⟩ := h'.q (by omega)
  rw [hv] at hv'
  cases hv'
  refine ⟨hp.one hp',hq.one hq',sameDs_of (by rw [h.len,h'.len]) fun k d e h1 h2 => ?_⟩
  obtain ⟨x,hx,hd⟩ := h.ds k d h1
  obtain ⟨y,hy,he⟩ := h'.ds k e h2
  rw [hx] at hy
  cases hy
  exact sameB_iff.2 (hd.det he)
theorem ReadB.one {ls : List (List UInt8)} {tl : List UInt8} {p q p' q' : R49} {ds ds' : List Dd} {I I' E E' : Int} (h : ReadB ls tl p q ds I E) (h' : ReadB ls tl p' q' ds' I' E') : p = p' /\ q = q' /\ sameDs ds ds' = true /\ I = I' /\ E = E' := by
  have no : ∀ i : Nat,tl = [] -> 2 <= ls.length -> (∀ i,i < ls.length -> OkAt ls i) -> ¬ ((i < ls.length /\ ¬ OkAt ls i) \/ (i = ls.length /\ (tl ≠ [] \/ i < 2))) := by
    intro i h1 h2 h3 h4
    rcases h4 with ⟨h5,h6⟩ | ⟨h5,h6 | h6⟩
    · exact h6 (h3 i h5)
    · exact h6 h1
    · omega
  rcases h with ⟨h1,h2,h3,h4,rfl,rfl⟩ | ⟨i,h1,h2,rfl,rfl,rfl,rfl,rfl⟩
  · rcases h' with ⟨_,_,_,h4',rfl,rfl⟩ | ⟨i,_,h2',_⟩
    · obtain ⟨e1,e2,e3⟩ := h4.one h2 h4'
      exact ⟨e1,e2,e3,rfl,rfl⟩
    · exact absurd h2' (no i h1 h2 h3)
  · rcases h' with ⟨h1',h2',h3',_⟩ | ⟨i',h1',h2',rfl,rfl,rfl,rfl,rfl⟩
    · exact absurd h2 (no i h1' h2' h3')
    · refine ⟨rfl,rfl,rfl,?_,rfl⟩
      have lt : ∀ i i' : Nat,((i < ls.length /\ ¬ OkAt ls i) \/ (i = ls.length /\ (tl ≠ [] \/ i < 2))) -> ((i' < ls.length /\ ¬ OkAt ls i') \/ (i' = ls.length /\ (tl ≠ [] \/ i' < 2))) -> (∀ j,j < i' -> OkAt ls j) -> ¬ i < i' := by
        intro i i' h2 h2' h1' hlt
        rcases h2 with ⟨_,h6⟩ | ⟨h5,_⟩
        · exact h6 (h1' i hlt)
        · rcases h2' with ⟨h7,_⟩ | ⟨h7,_⟩ <;> omega
      have a1 := lt i i' h2 h2' h1'
      have a2 := lt i' i h2' h2 h1
      have : i = i' := by omega
      rw [this]
theorem ReadA.one {s : ByteArray} {p q p' q' : R49} {ds ds' : List Dd} {I I' E E' : Int} (h : ReadA s p q ds I E) (h' : ReadA s p' q' ds' I' E') : p = p' /\ q = q' /\ sameDs ds ds' = true /\ I = I' /\ E = E' := by
  rcases h with ⟨h0,rfl,rfl,rfl,rfl,rfl⟩ | ⟨h0,h⟩
  · rcases h' with ⟨_,rfl,rfl,rfl,rfl,rfl⟩ | ⟨h0',_⟩
    · exact ⟨rfl,rfl,rfl,rfl,rfl⟩
    · omega
  · rcases h' with ⟨h0',_⟩ | ⟨_,h'⟩
    · omega
    · exact h.one h'
section
variable {W w : World} {M : List HP} {p q : R49} {a : Option Addr} {c : Nat} {ds : List Dd} {s : ByteArray} {I E : Int}
theorem scr_of (h : Hs W (slP 27 12 a ds.length c (ds.flatMap fun d => d.1.l) :: (ds.reverse.map (fun d => dtP W d.1.c d.2) ++ M)) w) (hA : ReadA s p q ds I E) : ScrOk w p q a ds := by
  obtain ⟨hp,hq,_,hd⟩ := hA.parts
  refine ⟨hp,hq,h.rd 0 rfl,fun d h => (hd d h).elim fun _ h => h.good,fun d hm => ?_,fun d h => (hd d h).elim fun _ h => by have := h.short; omega⟩
  have hmem : dtP W d.1.c d.2 ∈ ds.reverse.map (fun d => dtP W d.1.c d.2) ++ M := List.mem_append_left _ (List.mem_map.2 ⟨d,by simpa using hm,rfl⟩)
  obtain ⟨i,hi⟩ := List.getElem?_of_mem hmem
  exact dt_holds (h.drop.focus hi)
theorem c6 (hT : TB w) : Calls Tryz.prog 6 #[.string s] w (rt fun v w' => v = .bool true /\ Same w w') := by
  refine F6_ok ?_
  unfold F6
  simp only [rdS_mk]
  refine cl (c20 hT (Hs.start w)) ?_
  rintro _ w2 ⟨p,q,a,c,ds,I,E,rfl,hA,h2⟩
  refine exR60_of (mk60 p q a ds.length c) ⟨_,_,rfl,h2.alc fun b7 w8 h8 => h8.stcL 0 rfl (by rfl) fun w9 h9 => ?_⟩
  have h9 : Hs w (pt b7 (.cells (mk60 p q a ds.length c).c 61 (0,0)) :: slP 27 12 a ds.length c (ds.flatMap fun d => d.1.l) :: (ds.reverse.map (fun d => dtP w d.1.c d.2) ++ [])) w9 := h9
  refine cl (c21 hT h9) ?_
  rintro _ w10 ⟨p',q',a',c',es,I',E',rfl,hA',h10⟩
  refine exR60_of (mk60 p' q' a' es.length c') ⟨_,_,rfl,h10.alc fun b15 w16 h16 => h16.stcL 0 rfl (by rfl) fun w17 h17 => ?_⟩
  have h17 : Hs w (pt b15 (.cells (mk60 p' q' a' es.length c').c 61 (0,0)) :: slP 27 12 a' es.length c' (es.flatMap fun d => d.1.l) :: (es.reverse.map (fun d => dtP w d.1.c d.2) ++ (pt b7 (.cells (mk60 p q a ds.length c).c 61 (0,0)) :: slP 27 12 a ds.length c (ds.flatMap fun d => d.1.l) :: (ds.reverse.map (fun d => dtP w d.1.c d.2) ++ [])))) w17 := h17
  have hb := h17.drop.drop.dropL
  refine ldR60_of (s := mk60 p q a ds.length c) (hb.atL 0 rfl) (ldR60_of (s := mk60 p' q' a' es.length c') (h17.atL 0 rfl) ?_)
  refine cl (c22 (scr_of hb.drop hA) (scr_of h17.drop hA') (by have := hA.parts.2.2.1; omega)) ?_
  rintro _ w20 ⟨rfl,hs20⟩
  obtain ⟨rfl,rfl,hsm,rfl,rfl⟩ := hA.one hA'
  have hsF : sameF p q ds p q es = true := by
    unfold sameF
    rw [eqvs_self (m49 p),eqvs_self (m49 q),hsm]
    rfl
  have en : ∀ n : Int,(n == n) = true := fun n => by simp
  refine ⟨_,rfl,?_⟩
  rw [hsF,br_true,en,br_true,en,br_true]
  have h20 := h17.same hs20
  refine cl (c13 (hT.same h20.old)) ?_
  rintro _ w23 ⟨rfl,hs23⟩
  exact ⟨_,rfl,by first | rfl | trivial,(h20.same hs23).old⟩
end
end Go.Proofs.YtilenpnpnbdndaaGreatDoor
namespace Go.Proofs.YtilenpnpnbdndaaGreatDoor
open Go Go.Sh
open Go.ChangeShapes Go.WideShapes Go.ChangeAt Go.WideMaps Go.WideElems Go.RowKit
set_option maxRecDepth 100000
namespace Row6
theorem func : Tryz.prog.funcs[6]? = some Tryz.f6 := by kernel_rfl
theorem params : Tryz.f6.params.toList = [9] := by kernel_rfl
theorem reads (os : Os) {H : Type} (enc : TypeId × Value -> H) : ∃ places,DataW.whole enc Tryz.prog ((laidWorld os).forCall (fun _ _ => 0) ⟨#[],#[.string ⟨#[]⟩],[]⟩).memory Tryz.f6.params.toList Rows.scriptReadsSpec.vars false (#[.string ⟨#[]⟩] : Array Value).toList 8 = some ([.lit (.string [])],[],places) :=
  ⟨[],by kernel_rfl⟩
theorem lifted (os : Os) (started : os.Started) (H : Type) (enc : TypeId × Value -> H) (F : Stop.Interp) :
    ReturnsInHanded {} Tryz.checked os 6 .any ((OpenSpec.ofChange Rows.scriptReadsSpec).preRow enc Tryz.prog Tryz.f6 Rows.scriptReadsRow.domain false Rows.scriptReadsRow.laid) (((OpenSpec.ofChange Rows.scriptReadsSpec).at F).post enc Tryz.prog Tryz.f6 false true false false) := by
  obtain ⟨places,hx⟩ := reads os enc
  refine returnsInHanded_of_row (C := Tryz.checked) (s := (OpenSpec.ofChange Rows.scriptReadsSpec)) Row.own started (by kernel_rfl) func
    (witness_at (enc := enc) false (laidWorld os) #[.string ⟨#[]⟩] rfl (by kernel_rfl) (by kernel_rfl) (by kernel_rfl)
      (OpenSpec.preRow_of_cond 8 hx (by kernel_rfl) (fun k hk => by cases hk) (by kernel_rfl) (laid_met os _))) ?_
  intro W base args ds gs before hval0 hW _ hcond hz hL _ _
  have hval : ∀ (j : Nat) t v,Tryz.f6.params[j]? = some t -> args[j]? = some v -> Value.okWide Tryz.prog W .any base t v := hval0
  have hW' := hW
  obtain ⟨p,q,hA0,hV,rfl,hfz,hnd⟩ := hW
  have hA : DataW.TrodAll enc Tryz.prog W 0 (fun _ => true) true Tryz.f6.params.toList args.toList ds p := hA0
  rw [params] at hA
  have hwt := hz
  rw [params] at hwt
  obtain ⟨v0,d0,rfl,rfl,h0⟩ := trodAll_one hA
  obtain ⟨rfl,rfl⟩ := trodVars_none hV
  clear hA0 hval0
  have ht := of_laid hL
  have hlt0 : ∀ x ∈ p,x.block < W.heap.size := fun x hx => by simpa using hW'.lt x (by simp [hx])
  have h0k := h0
  obtain ⟨s0,rfl,rfl,rfl,hs0⟩ := open_text (hval 0 9 v0 (by kernel_rfl) rfl) h0
  have key := c6 (s := s0) ht
  refine key.mono fun e W' ⟨v,he,hv,hf⟩ => ?_
  subst he; subst hv
  have hbelow : Below W.heap.size W W' := hf.below (Nat.le_refl _) fun _ x => x.elim
  refine ⟨_,rfl,_,_,_,[],[],[],hW',?_,?_,rfl,hbelow.frame _,fun h => by cases h⟩
  · exact trodAll_mk1 (shut_bool Row.u4 _)
  · exact trodAll_mk1 (Below.trod Row.laidOut (by kernel_rfl) (of_decide_eq_true (by kernel_rfl)) h0k hbelow hlt0)
theorem plain (f : FuncId) (fn : Func) (hf : Tryz.pinned.checked.prog.funcNamed "ropewalk/ropewalklaw25.ScriptReads" = some f) (hfn : Tryz.pinned.checked.prog.funcs[f]? = some fn) :
    true = Tryz.pinned.checked.prog.looks [] /\ ∀ (j : Nat) t,fn.params[j]? = some t -> Tryz.pinned.checked.prog.wantsStandIn t = false := by
  obtain rfl : f = 6 := Option.some.inj ((show Tryz.prog.funcNamed "ropewalk/ropewalklaw25.ScriptReads" = some 6 by kernel_rfl).symm.trans hf) |>.symm
  obtain rfl : fn = Tryz.f6 := (Option.some.inj (func.symm.trans hfn)).symm
  refine ⟨by kernel_rfl,fun j t ht => ?_⟩
  have hm : t ∈ [9] := by rw [← params]; simpa using Array.mem_of_getElem? ht
  have hall : ([9].all fun u => !Tryz.prog.wantsStandIn u) = true := by kernel_rfl
  exact (show Tryz.prog.wantsStandIn t = false by simpa using List.all_eq_true.1 hall t hm)
end Row6
theorem scriptReads_holds : Rows.ScriptReadsSaid :=
  OpenClaim.holds_of_cond 6 Tryz.f6 rfl rfl rfl rfl rfl rfl rfl ⟨rfl,rfl,rfl,rfl,rfl⟩ rfl rfl rfl rfl rfl (by kernel_rfl) Row6.func (by kernel_rfl)
    (of_decide_eq_true (by kernel_rfl)) (by unfold Func.isWrapper; first | (rw [if_pos (by decide +kernel)]; kernel_rfl) | (rw [if_neg (by decide +kernel)]; exact ⟨rfl,rfl⟩))
    (fun os started H enc _ F => by rw [OpenClaim.pre_eq_preRow]; exact Row6.lifted os started H enc F)
theorem scriptReads_card : Rows.ScriptReadsCardSaid :=
  Claim7.holds_tied_plain_at .later [] _ _ _ _ scriptReads_holds (fun _ h => by cases h) (by kernel_rfl) (fun _ h => by cases h) scriptReads_row_tie rfl ⟨rfl,rfl⟩ (by kernel_rfl) rfl Row6.plain (by kernel_rfl)
#print axioms scriptReads_card
end Go.Proofs.YtilenpnpnbdndaaGreatDoor
