/- Own text: part of the shallow reading of the code and of the contracts that are proved over it. -/
import Derived.Test.YtilenpnpnbdndaaGreatDoorShO
import Derived.ArgAppend
import Derived.Laws.IdiomRangeMap
import Derived.Test.YtilenpnpnbdndaaGreatDoorShS
import Derived.Test.YtilenpnpnbdndaaGreatDoorShI
import Derived.Test.YtilenpnpnbdndaaGreatDoorSrL
namespace Go.Sh
open Go
def slO (e : TypeId) (size : Nat) (a : Option Addr) (l c : Nat) (xs : List Value) : HP := fun h =>
 xs.length = l * size /\ ((a = none /\ l = 0 /\ c = 0 /\ h = fun _ => none) \/ ∃ g k cur,a = some ⟨g,k,none⟩ /\ pt g (.cells cur e (0,0)) h /\ l <= c /\ c <= maxLen /\ k + c * size <= cur.size /\ (cur.toList.drop k).take (l * size) = xs)
section
variable {W w : World} {L : List HP} {e : TypeId} {size l c : Nat} {a : Option Addr} {xs : List Value}
theorem slP_slO {h : Hl} (hx : slP e size a l c xs h) : slO e size a l c xs h := by
 obtain ⟨hl,hx⟩ := hx
 refine ⟨hl,?_⟩
 rcases hx with hx | ⟨g,cur,h1,h2,h3,h4,h5,h6⟩
 ·exact .inl hx
 ·exact .inr ⟨g,0,cur,h1,h2,h3,h4,by omega,by rw [List.drop_zero]; exact h6⟩
theorem Hs.weak {A B : HP} (h : Hs W L w) (i : Nat) (hi : L[i]? = some A) (hab : ∀ x,A x -> B x) : Hs W (L.set i B) w :=
 h.upd i hi fun x hx ax _ => ⟨x,hab x hx,ax,fun _ hk => .inl hk,Fr.refl w⟩
theorem Hs.toO (h : Hs W L w) (i : Nat) (hi : L[i]? = some (slP e size a l c xs)) : Hs W (L.set i (slO e size a l c xs)) w := h.weak i hi fun _ => slP_slO
theorem inB_ofO {x : Hl} (hx : slO e size a l c xs x) (k : Nat) : x k ≠ none ↔ inB a k := by
 obtain ⟨_,hx⟩ := hx
 rcases hx with ⟨rfl,rfl,rfl,rfl⟩ | ⟨b,o,cur,rfl,rfl,_⟩
 ·simp [inB]
 ·simp only [inB,Option.some.injEq,exists_eq_left',ne_eq]
  constructor
  ·intro h
   by_cases hk : k = b
   ·exact hk.symm
   ·simp [hk] at h
  ·rintro rfl; simp
theorem Hs.rdO (h : Hs W L w) (i : Nat) (hi : L[i]? = some (slO e size a l c xs)) : Rd w a xs := by
 obtain ⟨x,⟨hl,hx⟩,g,lo⟩ := h.look hi
 intro j u hj
 rcases hx with ⟨rfl,rfl,rfl,rfl⟩ | ⟨b,k,cur,rfl,rfl,h1,h2,h3,h4⟩
 ·simp at hl; subst hl; simp at hj
 ·have hb := g b (.cells cur e (0,0)) (by simp)
  refine ⟨_,rfl,?_⟩
  rw [add_mk,cell_at hb]
  rw [← h4,List.getElem?_take] at hj
  split at hj
  ·rw [List.getElem?_drop] at hj; simpa using hj
  ·cases hj
theorem Hs.lenO (h : Hs W L w) (i : Nat) (hi : L[i]? = some (slO e size a l c xs)) : xs.length = l * size /\ l <= c /\ c <= maxLen := by
 obtain ⟨x,⟨hl,hx⟩,_,_⟩ := h.look hi
 rcases hx with ⟨_,rfl,rfl,_⟩ | ⟨b,k,cur,_,_,h1,h2,_⟩
 ·exact ⟨hl,Nat.le_refl _,Nat.zero_le _⟩
 ·exact ⟨hl,h1,h2⟩
theorem Hs.cutO (h : Hs W L w) (i : Nat) (hi : L[i]? = some (slO e size a l c xs)) {j : Nat} (hj : j <= l) : Hs W (L.set i (slO e size (if c = j then a else a.map (·.add (j * size))) (l - j) (c - j) (xs.drop (j * size)))) w :=
 h.weak i hi fun x ⟨hl,hx⟩ => by
  refine ⟨by rw [List.length_drop,hl,Nat.sub_mul],?_⟩
  rcases hx with ⟨rfl,rfl,rfl,rfl⟩ | ⟨b,k,cur,rfl,hp,h1,h2,h3,h4⟩
  ·refine .inl ⟨?_,by omega,by omega,rfl⟩
   split <;> rfl
  ·by_cases hc : c = j
   ·rw [if_pos hc]
    refine .inr ⟨b,k,cur,rfl,hp,by omega,by omega,?_,?_⟩
    ·have : (c - j) * size = 0 := by rw [hc,Nat.sub_self,Nat.zero_mul]
     omega
    ·have e1 : l - j = 0 := by omega
     rw [e1,Nat.zero_mul,List.take_zero,List.drop_eq_nil_of_le]
     rw [hl]
     exact Nat.mul_le_mul_right _ (by omega)
   ·rw [if_neg hc]
    refine .inr ⟨b,k + j * size,cur,by simp,hp,by omega,by omega,?_,?_⟩
    ·have := Nat.mul_le_mul_right size (show j <= c by omega)
     rw [Nat.sub_mul]; omega
    ·rw [← h4,List.drop_take,List.drop_drop,Nat.sub_mul]
variable {P : Program} {t ty : TypeId} {bytes : Nat} {z : Value} {inf : TypeInfo}
theorem run_append_roomO (E : ElemT P t e size bytes z inf) {g k sLen sCap : Nat} {cur : Array Value} (hg : w.heap[g]? = some (.cells cur e (0,0))) {b : Addr} {m d : Nat} {news : List Value} (hl : news.length = m * size) (hnews : Rd w (some b) news) (h1 : ∀ u ∈ news,u.oneCell' = true)
  (hroom : sLen + m <= sCap) (hfit : k + sLen * size + news.length <= cur.size) :
  Sem.run P (Builtin.append_ #[t,t] ty #[.slice (some ⟨g,k,none⟩) sLen sCap,.slice (some b) m d]) w =
   .ok (.slice (some ⟨g,k,none⟩) (sLen + m) sCap) (w.setRow g (cur.toList.take (k + sLen * size) ++ news ++ cur.toList.drop (k + sLen * size + news.length)).toArray) := by
 have hf := run_firstCells_some (P := P) w inf.size m b m d news (by rw [E.hsize]; exact hl) (fun j u hj => hnews.at hj)
 have hst := run_storeCells_at P g (k + sLen * size) e news 0 cur w hg (by simpa using hfit) h1
 simp only [Nat.add_zero] at hst
 rw [← E.hsize] at hst ⊢
 simp [Builtin.append_,run_underlying E.ht,sizeOf,typeInfo,E.hi,Builtin.lenOf,hroom,hf,hst]
theorem own_slO {B : Nat} (h : Own w B e size a l c xs) : ∃ x,slO e size a l c xs x /\ ag x w := by
 obtain ⟨x,hx,g⟩ := own_to h
 exact ⟨x,slP_slO hx,g⟩
theorem Hs.appendO (E : ElemT P t e size bytes z inf) (h : Hs W L w) (i : Nat) (hi : L[i]? = some (slO e size a l c xs)) {b : Addr} {m d : Nat} {news : List Value} (hl : news.length = m * size) (hnews : Rd w (some b) news) (h1 : ∀ u ∈ news,u.oneCell' = true) (hn : l + m <= 281474976710656) (hb : (l + m) * bytes <= 140737488355328)
  {K : Option Addr -> Nat -> Nat -> World -> Prop} (hk : ∀ a' c' w',Hs W (L.set i (slO e size a' (l + m) c' (xs ++ news))) w' -> Fr (inB a) w w' -> K a' (l + m) c' w') :
  ∃ a' l' c' w',Sem.run P (Builtin.append_ #[t,t] ty #[.slice a l c,.slice (some b) m d]) w = .ok (.slice a' l' c') w' /\ K a' l' c' w' := by
 have hr := h.rdO i hi
 obtain ⟨hlen,hlc,hcm⟩ := h.lenO i hi
 have fresh : ∀ {a' : Option Addr} {c' : Nat} {w' : World},Own w' w.heap.size e size a' (l + m) c' (xs ++ news) -> Same w w' -> Hs W (L.set i (slO e size a' (l + m) c' (xs ++ news))) w' := by
  intro a' c' w' ho hs
  refine h.upd i hi fun x hx g lo => ?_
  obtain ⟨y,hy,gy⟩ := own_slO ho
  exact ⟨y,hy,gy,fun k hk => .inr (ho.base_le ((inB_ofO hy k).1 hk)).1,hs.mono fun _ _ x => x.elim⟩
 have dec : a = none \/ ∃ g k cur,a = some ⟨g,k,none⟩ /\ w.heap[g]? = some (.cells cur e (0,0)) /\ k + c * size <= cur.size /\ (cur.toList.drop k).take (l * size) = xs := by
  obtain ⟨x,⟨_,hx⟩,g,_⟩ := h.look hi
  rcases hx with ⟨h,_⟩ | ⟨b,k,cur,h,rfl,h1,h2,h3,h4⟩
  ·exact .inl h
  ·exact .inr ⟨b,k,cur,h,g b _ (by simp),h3,h4⟩
 rcases dec with rfl | ⟨g,k,cur,rfl,hg,hc,hx⟩
 ·have hz : l = 0 /\ c = 0 /\ xs = [] := by
   obtain ⟨x,⟨hl,hx⟩,_,_⟩ := h.look hi
   rcases hx with ⟨_,rfl,rfl,_⟩ | ⟨b,k,cur,h,_⟩
   ·exact ⟨rfl,rfl,by simpa using hl⟩
   ·cases h
  obtain ⟨rfl,rfl,rfl⟩ := hz
  obtain ⟨a',l',c',w',hr,rfl,ho,hf,hs⟩ := append_own (ty := ty) (base := w.heap.size) (d := d) E (Own.nil w w.heap.size e size) hl hnews h1 hn hb (Nat.le_refl _)
  have hsm : Same w w' := hf.mono fun _ _ ⟨_,e,_⟩ => by cases e
  exact ⟨a',_,c',w',hr,hk a' c' w' (fresh ho hsm) hf⟩
 ·by_cases hroom : l + m <= c
  ·have hm1 : (l + m) * size <= c * size := Nat.mul_le_mul_right _ hroom
   rw [Nat.add_mul] at hm1
   have hrun := run_append_roomO (ty := ty) (d := d) (k := k) E hg hl hnews h1 hroom (by rw [hl]; omega)
   rw [setRow_sb hg] at hrun
   have hcl : cur.toList.length = cur.size := by simp
   have e1 : (cur.toList.take (k + l * size)).length = k + l * size := by rw [List.length_take,hcl]; omega
   obtain ⟨nc,hnc⟩ : ∃ nc,nc = (cur.toList.take (k + l * size) ++ news ++ cur.toList.drop (k + l * size + news.length)).toArray := ⟨_,rfl⟩
   rw [← hnc] at hrun
   have f1 : k + c * size <= nc.size := by
    rw [hnc]
    simp only [List.size_toArray,List.length_append,List.length_take,List.length_drop,hl,hcl]
    omega
   have f2 : (nc.toList.drop k).take ((l + m) * size) = xs ++ news := by
    rw [hnc]
    simp only
    rw [List.append_assoc,List.drop_append_of_le_length (by rw [e1]; omega),List.drop_take,show k + l * size - k = l * size by omega,hx]
    rw [← List.append_assoc,List.take_append_of_le_length (by rw [List.length_append,hlen,hl,Nat.add_mul]; exact Nat.le_refl _),List.take_of_length_le (by rw [List.length_append,hlen,hl,Nat.add_mul]; exact Nat.le_refl _)]
   clear hnc
   refine ⟨_,_,_,_,hrun,hk _ _ _ ?_ ((Fr.refl w).sb fun _ => ⟨_,rfl,rfl⟩)⟩
   refine h.upd i hi fun x hx gx lo => ?_
   refine ⟨_,⟨by rw [List.length_append,hlen,hl,Nat.add_mul],.inr ⟨g,k,nc,rfl,rfl,hroom,hcm,f1,f2⟩⟩,fun q o e => ?_,fun q hq => .inl ?_,(Fr.refl w).sb fun hb => ?_⟩
   ·by_cases hq : q = g
    ·subst hq
     simp at e; subst e
     exact sb_same hg
    ·simp [hq] at e
   ·by_cases hq' : q = g
    ·subst hq'; exact (inB_ofO hx q).2 ⟨_,rfl,rfl⟩
    ·simp [hq'] at hq
   ·exact (inB_ofO hx g).2 ⟨_,rfl,rfl⟩
  ·obtain ⟨v',w',hrun,ho,hgr⟩ := run_append_arg_grows (P := P) w t ty e inf z size bytes E.ht E.hi E.hz E.hsize E.hby E.hzs E.pos ⟨g,k,none⟩ l c xs hlen (fun j u hj => hr.at hj) b m d news hl (fun j u hj => hnews.at hj) (by omega) (by unfold maxLen; omega) hb
   have hsm : Same w w' := ⟨hgr.os,hgr.tape,hgr.output,hgr.size,fun q hq _ => hgr.block q hq fun e => by cases e⟩
   rcases ho.2 with ⟨rfl,h0⟩ | ⟨g',cap,cur',rfl,_⟩
   ·have hz : l + m = 0 := h0
    exact ⟨none,0,0,w',hrun,by
     have := hk none 0 w' (fresh (by rw [hz] at ho ⊢; exact ho) hsm) (hsm.mono fun _ _ x => x.elim)
     rw [hz] at this
     exact this⟩
   ·exact ⟨_,_,_,w',hrun,hk _ _ w' (fresh ho hsm) (hsm.mono fun _ _ x => x.elim)⟩
end
end Go.Sh
namespace Go.Sh
open Go
def on (f : List Nat) (P : World -> Prop) : HP := fun x => f.Nodup /\ (∀ k,x k ≠ none ↔ k ∈ f) /\ ∀ w,ag x w -> P w
section
variable {W w : World} {L M : List HP} {A B : HP} {f g : List Nat} {P Q : World -> Prop}
theorem Dm.on : Dm (Sh.on f P) f := fun _ hx => ⟨hx.1,hx.2.1⟩
theorem Bu.on (hn : f.Nodup) (hb : ∀ k ∈ f,k < w.heap.size) (hl : ∀ w',(∀ k ∈ f,w'.heap[k]? = w.heap[k]?) -> P w') : Bu w (Sh.on f P) := by
 refine ⟨fun k => if k ∈ f then w.heap[k]? else none,⟨hn,fun k => ?_,fun w' a => hl w' fun k hk => ?_⟩,fun k o e => ?_⟩
 ·constructor
  ·intro h
   rcases Classical.em (k ∈ f) with h' | h'
   ·exact h'
   ·exact absurd (if_neg h') h
  ·intro h
   show (if k ∈ f then w.heap[k]? else none) ≠ none
   rw [if_pos h]
   simp [hb k h]
 ·have e : w.heap[k]? = some (w.heap[k]'(hb k hk)) := by simp [hb k hk]
  rw [e]
  exact a k _ (by show (if k ∈ f then w.heap[k]? else none) = _; rw [if_pos hk,e])
 ·have e : (if k ∈ f then w.heap[k]? else none) = some o := e
  split at e
  ·exact e
  ·cases e
theorem Hs.got (h : Hs W L w) (i : Nat) (hi : L[i]? = some (Sh.on f P)) : P w := by
 obtain ⟨x,hx,a,_⟩ := h.look hi
 exact hx.2.2 w a
end
section
variable {W w : World} {L : List HP} {kk kv kd : IntKind} {m : Nat} {f : Int -> Option Int} {P : Program} {T kt et : TypeId} {k v : Int}
def mapP (kk kv : IntKind) (m : Nat) (f : Int -> Option Int) : HP := on [m] fun w => MapI kk kv w m f
theorem Hs.map (h : Hs W L w) (i : Nat) (hi : L[i]? = some (mapP kk kv m f)) : MapI kk kv w m f := h.got i hi
end
end Go.Sh
namespace Go.Sh
open Go Go.RowKit
section
variable {W w : World} {L : List HP} {kk kv kd : IntKind} {m it since c0 c : Nat} {f : Int -> Option Int} {P : Program} {T kt et ty : TypeId} {k v : Int} {es : Array MapEntry} {seen : Array Nat} {z : Option Nat}
theorem run_next_at (hi : w.heap[it]? = some (.mapIter (some m) since seen c0)) (hb : w.heap[m]? = some (.map es c)) (hold : ∀ x ∈ es.toList,x.born < since) (hsc : since <= c0) :
  ((leftOf es seen).size = 0 /\ (Instr.next (.pointer (some ⟨it,0,none⟩)) false ty).run P w = .ok (.tuple #[.bool false]) w) \/
  ∃ e ∈ (leftOf es seen).toList,∃ w1 : World,(w1 = w \/ w1 = w.drew) /\ (Instr.next (.pointer (some ⟨it,0,none⟩)) false ty).run P w = .ok (.tuple #[.bool true,e.key,e.val]) (sb w1 it (.mapIter (some m) since (seen.push e.born) c)) := by
 have g1 : (getObj it).run P w = .ok (.mapIter (some m) since seen c0) w := run_getObj hi (fun _ _ _ e => by cases e)
 have g2 : (getObj m).run P w = .ok (.map es c) w := run_getObj hb (fun _ _ _ e => by cases e)
 simp only [Instr.next,Sem.run_bind,g1,g2,Result.andThen_ok,next_test_false seen es since c0 hold hsc,Bool.false_eq_true,if_false]
 unfold leftOf
 have hmem : ∀ x ∈ (Array.filter (fun e => !seen.contains e.born) es).toList,x.born < since := fun x hx => hold x (by simp at hx ⊢; exact hx.1)
 generalize Array.filter (fun e => !seen.contains e.born) es = L at hmem ⊢
 have e1 : L.filter (fun x => decide (x.born < since)) = L := Array.filter_eq_self.2 (fun x hx => by simpa using hmem x (by simpa using hx))
 have e2 : L.filter (fun x => decide (x.born >= since)) = #[] := by
  rw [Array.filter_eq_empty_iff]
  intro x hx
  have := hmem x (by simpa using hx)
  simp
  omega
 simp only [e1,e2,Array.append_empty]
 by_cases h0 : L.size = 0
 ·left
  have : L = #[] := Array.eq_empty_of_size_eq_zero h0
  subst this
  refine ⟨rfl,?_⟩
  simp [choose,Sem.run,Question.forced]
 ·right
  have hne : L.isEmpty = false := by simp [Array.isEmpty,h0]
  simp only [hne,Bool.false_eq_true,if_false,Array.empty_append,Array.size_map]
  have hch : ∃ (j : Nat) (w1 : World),j < L.size /\ (w1 = w \/ w1 = w.drew) /\ (choose (Question.mapNext L.size)).run P w = .ok j w1 := by
   by_cases hf : L.size <= 1
   ·exact ⟨0,w,by omega,.inl rfl,by simp [choose,Sem.run,Question.forced,hf]⟩
   ·exact ⟨_,w.drew,Nat.mod_lt _ (by omega),.inr rfl,by
     simp only [choose,Sem.run,Question.forced,decide_eq_true_eq,hf,if_false,Question.cut]
     rfl⟩
  obtain ⟨j,w1,hj,hal,hrun⟩ := hch
  refine ⟨L[j],by simp,w1,hal,?_⟩
  have hi1 : w1.heap[it]? = some (.mapIter (some m) since seen c0) := by rcases hal with rfl | rfl <;> exact hi
  have hset := run_setObj (P := P) (o := .mapIter (some m) since (seen.push (L[j]).born) c) hi1 (fun _ _ _ e => by cases e)
  simp only [hrun,Array.getElem?_map,Array.getElem?_eq_getElem hj,Option.map_some,Sem.run_bind,hset,Result.andThen_ok]
  rfl
theorem run_entry_at {e : MapEntry} (hi : w.heap[it]? = some (.mapIter (some m) since (seen.push e.born) c)) (hb : w.heap[m]? = some (.map es c)) (he : e ∈ es.toList) (hn : (es.toList.map (·.born)).Nodup) :
  (Instr.entry (.pointer (some ⟨it,0,none⟩))).run P w = .ok (.tuple #[e.key,e.val]) w := by
 have g1 : (getObj it).run P w = .ok (.mapIter (some m) since (seen.push e.born) c) w := run_getObj hi (fun _ _ _ e => by cases e)
 have g2 : (getObj m).run P w = .ok (.map es c) w := run_getObj hb (fun _ _ _ e => by cases e)
 have hf : es.find? (·.born == e.born) = some e := by rw [← Array.find?_toList]; exact find_born e es.toList hn he
 simp only [Instr.entry,Sem.run_bind,g1,g2,Result.andThen_ok,Array.back?_push,bne_self_eq_false,Bool.false_eq_true,if_false,hf]
 rfl
theorem ixS_to {sz l : Nat} {ad : Addr} {i : Int} {p : Nat} {K : Addr -> Prop} (hi : i = (p : Int)) (h1 : p < l) (hk : K (ad.add (p * sz))) : ixS sz (some ad) l i K := by
 subst hi
 exact ixS_of (by omega) (by omega) (by rw [Int.toNat_natCast]; exact hk)
theorem Hs.dropL {X : List HP} (h : Hs W (X ++ L) w) : Hs W L w := by
 induction X with
 | nil => exact h
 | cons A X ih => exact ih h.drop
theorem Hs.next (h : Hs W L w) (i j : Nat) (hi : L[i]? = some (pt it (.mapIter (some m) since seen c0))) (hj : L[j]? = some (pt m (.map es c))) (hold : ∀ x ∈ es.toList,x.born < since) (hsc : since <= c0) {K0 : World -> Prop} {K1 : Value -> Value -> World -> Prop}
  (h0 : (leftOf es seen).size = 0 -> K0 w) (h1 : ∀ e ∈ (leftOf es seen).toList,∀ w',Hs W (L.set i (pt it (.mapIter (some m) since (seen.push e.born) c))) w' -> K1 e.key e.val w') :
  (∃ w2,Sem.run P (Instr.next (.pointer (some ⟨it,0,none⟩)) false ty) w = .ok (.tuple #[.bool false]) w2 /\ K0 w2) \/ (∃ k v w2,Sem.run P (Instr.next (.pointer (some ⟨it,0,none⟩)) false ty) w = .ok (.tuple #[.bool true,k,v]) w2 /\ K1 k v w2) := by
 rcases run_next_at (P := P) (ty := ty) (h.at i hi) (h.at j hj) hold hsc with ⟨hz,hr⟩ | ⟨e,he,w1,hw,hr⟩
 ·exact .inl ⟨w,hr,h0 hz⟩
 ·refine .inr ⟨_,_,_,hr,h1 e he _ ?_⟩
  have h2 : Hs W L w1 := by
   rcases hw with rfl | rfl
   ·exact h
   ·exact h.drew
  exact h2.sb i hi _
theorem Hs.entry {e : MapEntry} (h : Hs W L w) (i j : Nat) (hi : L[i]? = some (pt it (.mapIter (some m) since (seen.push e.born) c))) (hj : L[j]? = some (pt m (.map es c))) (he : e ∈ es.toList) (hn : (es.toList.map (·.born)).Nodup) :
  Sem.run P (Instr.entry (.pointer (some ⟨it,0,none⟩))) w = .ok (.tuple #[e.key,e.val]) w := run_entry_at (h.at i hi) (h.at j hj) he hn
end
end Go.Sh
namespace Go.Sh
open Go
section
variable {W w : World} {L : List HP} {P : Program} {t ty e : TypeId} {size bytes : Nat} {z : Value} {inf : TypeInfo} {a oa : Option Addr} {l c ol oc n : Nat} {xs ys : List Value} {k : IntKind}
end
end Go.Sh
namespace Go.Sh
open Go
theorem tl_loop (b : ByteArray) : ∀ (n i : Nat) (r : List UInt8),b.size - i = n -> ByteArray.toList.loop b i r = r.reverse ++ b.data.toList.drop i := by
 intro n
 induction n with
 | zero =>
  intro i r h
  unfold ByteArray.toList.loop
  rw [if_neg (by omega),List.drop_of_length_le (by simp; show b.data.size <= i; have : b.size = b.data.size := rfl; omega),List.append_nil]
 | succ n ih =>
  intro i r h
  unfold ByteArray.toList.loop
  have hi : i < b.data.size := by have : b.size = b.data.size := rfl; omega
  rw [if_pos (by omega),ih (i + 1) _ (by omega)]
  have : b.data.toList.drop i = b.data[i] :: b.data.toList.drop (i + 1) := by
   rw [List.drop_eq_getElem_cons (by simpa using hi)]
   simp
  rw [this]
  have hg : b.get! i = b.data[i] := by
   show b.data[i]! = b.data[i]
   exact getElem!_pos b.data i hi
  rw [hg]
  simp
theorem tl_data (b : ByteArray) : b.toList = b.data.toList := by
 unfold ByteArray.toList
 rw [tl_loop b _ 0 [] rfl]; simp
theorem str_ext {a b : ByteArray} (h : a.data.toList = b.data.toList) : a = b := by
 cases a; cases b
 simp at h
 subst h; rfl
theorem str_eq {a b : ByteArray} : (a.toList == b.toList) = true ↔ a = b := by
 rw [beq_iff_eq,tl_data,tl_data]
 exact ⟨str_ext,fun h => by rw [h]⟩
theorem str_beq (a b : ByteArray) : (a.toList == b.toList) = decide (a = b) := by
 by_cases h : a = b
 ·rw [decide_eq_true h]; exact str_eq.2 h
 ·rw [decide_eq_false h]
  cases hb : a.toList == b.toList with
  | false => rfl
  | true => exact absurd (str_eq.1 hb) h
end Go.Sh
namespace Go.Proofs.YtilenpnpnbdndaaGreatDoor
open Go Go.Sh
set_option maxRecDepth 100000
noncomputable def E77i : TypeInfo := (Tryz.prog.info? 9).getD default
theorem E77 : ElemT Tryz.prog 77 9 1 16 (.string ⟨#[]⟩) E77i := ⟨by kernel_rfl,by kernel_rfl,by kernel_rfl,by kernel_rfl,by kernel_rfl,rfl,by decide⟩
def wsV (ws : List ByteArray) : List Value := ws.map Value.string
theorem wsV_length (ws : List ByteArray) : (wsV ws).length = ws.length := by simp [wsV]
theorem wsV_one (ws : List ByteArray) : ∀ u ∈ wsV ws,u.oneCell' = true := fun u hu => by
 obtain ⟨x,_,rfl⟩ := List.mem_map.1 hu
 rfl
def lnP (lb : Nat) (r : Bool) (ws : List ByteArray) : HP := ex fun p : Option Addr × Nat => bigS [pt lb (.cells #[.slice p.1 ws.length p.2,.bool r] 79 (0,0)),slO 9 1 p.1 ws.length p.2 (wsV ws)]
theorem escOf {P : Program} {f : FuncId} {xs : Array Value} {w : World} {E : List PanicEntry -> World -> Prop} {K : Value -> World -> Prop} (h : Calls P f xs w (@rv ⟨E⟩ K)) : Calls P f xs w (rtp K E) := h.mono fun _ _ => rv_esc
theorem escI {P : Program} {f : FuncId} {xs : Array Value} {w : World} {E : List PanicEntry -> World -> Prop} {K : Value -> World -> Prop} (h : ∀ [Esc],(∀ ch w',E ch w' -> Esc.E ch w') -> Calls P f xs w (rv K)) : Calls P f xs w (rtp K E) := escOf (@h ⟨E⟩ fun _ _ h => h)
section
variable {W w : World} {M : List HP} {lb : Nat} {r : Bool} {ws : List ByteArray}
theorem ln_open (h : Hs W (lnP lb r ws :: M) w) : ∃ a c,Hs W (pt lb (.cells #[.slice a ws.length c,.bool r] 79 (0,0)) :: slO 9 1 a ws.length c (wsV ws) :: M) w := by
 obtain ⟨p,h⟩ := Hs.cons_ex.1 h
 exact ⟨p.1,p.2,Hs.cons_bigS.1 h⟩
theorem ln_shut {a : Option Addr} {c : Nat} (h : Hs W (pt lb (.cells #[.slice a ws.length c,.bool r] 79 (0,0)) :: slO 9 1 a ws.length c (wsV ws) :: M) w) : Hs W (lnP lb r ws :: M) w := Hs.cons_ex.2 ⟨(a,c),Hs.cons_bigS.2 h⟩
theorem c28 {b : Bool} {c : Int} : Calls Tryz.prog 28 #[.bool b,.int .i64 c] w (rtp (fun v w' => b = true /\ v = .tuple #[] /\ w' = w) (fun ch w' => b = false /\ ch = PE c /\ w' = w)) := by
 refine escI fun hE => F28_ok ?_
 unfold F28
 simp only [rdB_mk,rdI_mk]
 cases b with
 | true => exact ⟨rfl,by first | rfl | trivial,by first | rfl | trivial⟩
 | false => exact hE _ _ ⟨rfl,rfl,rfl⟩
theorem c81 (h : Hs W (lnP lb r ws :: M) w) : Calls Tryz.prog 81 #[.pointer (some ⟨lb,0,none⟩)] w (rtp (fun v w' => ∃ s rest,ws = s :: rest /\ v = .string s /\ Hs W (lnP lb r rest :: M) w') (fun ch w' => ws = [] /\ ch = PE 250 /\ Hs W M w')) := by
 refine escI fun hE => F81_ok ?_
 obtain ⟨a,c,h1⟩ := ln_open h
 unfold F81
 simp only [rdP_mk,nn]
 refine h1.ldC 0 rfl rfl ?_
 refine clp c28 ?_ ?_
 ·rintro _ _ ⟨hb,rfl,rfl⟩
  refine ⟨rfl,?_⟩
  rw [decide_eq_true_eq] at hb
  cases ws with
  | nil => simp at hb
  | cons s rest =>
   refine h1.ldC 0 rfl rfl ?_
   have hr := h1.rdO 1 rfl
   obtain ⟨ad,ha⟩ := hr.some (by simp [wsV])
   subst ha
   have hl := h1.lenO 1 rfl
   refine ixS_to (p := 0) rfl (by simp) ?_
   refine ldS_c (n := s) (Rd.at hr (j := 0) rfl) ?_
   refine h1.ldC 0 rfl rfl ?_
   unfold slS
   show bnd _ _ _ _
   refine ⟨⟨by omega,by simp at hl ⊢; omega⟩,?_⟩
   show stc _ (.slice (if c = 1 then some ad else (some ad).map (·.add (1 * 1))) ((s :: rest).length - 1) (c - 1)) _ _
   refine h1.stc 0 rfl (by simp) fun w4 h4 => ⟨s,rest,rfl,by first | rfl | trivial,?_⟩
   have h5 := h4.cutO 1 rfl (j := 1) (by simp)
   exact ln_shut h5
 ·rintro ch _ ⟨hb,rfl,rfl⟩
  rw [decide_eq_false_iff_not] at hb
  cases ws with
  | nil => exact hE _ _ ⟨rfl,rfl,(h1.erase 0).erase 0⟩
  | cons s rest => simp at hb
theorem wsV_append (a b : List ByteArray) : wsV (a ++ b) = wsV a ++ wsV b := by simp [wsV]
theorem c82 {ad : Addr} {us : List ByteArray} {cc : Nat} (h : Hs W (lnP lb r ws :: M) w) (hr : Rd w (some ad) (wsV us)) (hl : ws.length + us.length <= 1000000) : Calls Tryz.prog 82 #[.pointer (some ⟨lb,0,none⟩),.slice (some ad) us.length cc] w (rt fun v w' => v = .tuple #[] /\ Hs W (lnP lb r (ws ++ us) :: M) w') := by
 obtain ⟨a,c,h1⟩ := ln_open h
 refine F82_ok ?_
 unfold F82
 simp only [rdP_mk,rdC_mk,nn]
 refine h1.ldC 0 rfl rfl ?_
 refine h1.appendO E77 1 rfl (by simp [wsV]) hr (wsV_one us) (by omega) (by omega) fun a' c' w' h2 _ => ?_
 refine h2.stc 0 rfl (by simp) fun w3 h3 => ⟨by first | rfl | trivial,?_⟩
 have h3 : Hs W (pt lb (.cells #[.slice a' (ws.length + us.length) c',.bool r] 79 (0,0)) :: slO 9 1 a' (ws.length + us.length) c' (wsV ws ++ wsV us) :: M) w3 := h3
 rw [← wsV_append,← List.length_append] at h3
 exact ln_shut h3
theorem c50w {s : ByteArray} (h : Hs W (lnP lb false ws :: M) w) (hl : ws.length <= 1000) : Calls Tryz.prog 50 #[.pointer (some ⟨lb,0,none⟩),.string s] w (rtp (fun v w' => v = .tuple #[] /\ Hs W (lnP lb false (ws ++ [s]) :: M) w') (fun _ _ => False)) := by
 refine escI fun hE => F50_ok ?_
 obtain ⟨a,c,h1⟩ := ln_open h
 unfold F50
 simp only [rdP_mk,rdS_mk,nn]
 refine h1.ldB 0 rfl rfl ?_
 rw [br_false]
 refine h.alc fun b w2 h2 => ?_
 have h3 : Hs W (lnP lb false ws :: pt b (.cells #[.string s] 9 (0,0)) :: M) w2 := h2.perm (List.Perm.swap _ _ _)
 refine cl (c82 (us := [s]) h3 (fun j u hj => ?_) (by simp; omega)) ?_
 ·refine ⟨_,rfl,?_⟩
  have := h3.at 1 rfl
  rw [add_mk,cell_at this]
  cases j with
  | zero => simpa [wsV] using hj
  | succ j => simp [wsV] at hj
 ·rintro _ w4 ⟨rfl,h4⟩
  exact ⟨rfl,by first | rfl | trivial,h4.erase 1⟩
theorem c50r {s : ByteArray} (h : Hs W (lnP lb true ws :: M) w) : Calls Tryz.prog 50 #[.pointer (some ⟨lb,0,none⟩),.string s] w (rtp (fun v w' => ∃ rest,ws = s :: rest /\ v = .tuple #[] /\ Hs W (lnP lb true rest :: M) w') (fun ch w' => (∀ rest,ws ≠ s :: rest) /\ ch = PE 250 /\ Hs W M w')) := by
 refine escI fun hE => F50_ok ?_
 obtain ⟨a,c,h1⟩ := ln_open h
 unfold F50
 simp only [rdP_mk,rdS_mk,nn]
 refine h1.ldB 0 rfl rfl ?_
 rw [br_true]
 refine clp (c81 h) ?_ ?_
 ·rintro _ w2 ⟨u,rest,rfl,rfl,h2⟩
  refine ⟨u,rfl,?_⟩
  rw [str_beq]
  refine clp c28 ?_ ?_
  ·rintro _ _ ⟨hb,rfl,rfl⟩
   rw [decide_eq_true_eq] at hb
   subst hb
   exact ⟨rfl,rest,rfl,by first | rfl | trivial,h2⟩
  ·rintro ch _ ⟨hb,rfl,rfl⟩
   rw [decide_eq_false_iff_not] at hb
   exact hE _ _ ⟨fun r e => hb (by injection e),rfl,h2.erase 0⟩
 ·rintro ch w2 ⟨rfl,rfl,h2⟩
  refine hE _ _ ⟨fun r e => ?_,rfl,h2⟩
  cases e
theorem c34 (h : Hs W (lnP lb r ws :: M) w) : Calls Tryz.prog 34 #[.pointer (some ⟨lb,0,none⟩)] w (rtp (fun v w' => ws = [] /\ v = .tuple #[] /\ Hs W M w') (fun ch w' => ws ≠ [] /\ ch = PE 250 /\ Hs W M w')) := by
 refine escI fun hE => F34_ok ?_
 obtain ⟨a,c,h1⟩ := ln_open h
 unfold F34
 simp only [rdP_mk,nn]
 refine h1.ldC 0 rfl rfl ?_
 refine clp c28 ?_ ?_
 ·rintro _ _ ⟨hb,rfl,rfl⟩
  refine ⟨rfl,?_,by first | rfl | trivial,(h1.erase 0).erase 0⟩
  cases ws with
  | nil => rfl
  | cons x r => simp at hb; omega
 ·rintro ch _ ⟨hb,rfl,rfl⟩
  refine hE _ _ ⟨fun e => ?_,rfl,(h1.erase 0).erase 0⟩
  subst e
  simp at hb
end
end Go.Proofs.YtilenpnpnbdndaaGreatDoor
