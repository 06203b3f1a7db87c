/- Own text: part of the shallow reading of the code and of the contracts that are proved over it. -/
import Derived.Test.YtilenpnpnbdndaaGreatDoorShI
import Derived.Laws.AppendOwn
import Derived.Laws.StructEq
import Derived.ChangeKeysEq
import Derived.Laws.OwnMore
import Derived.Laws.CopyRow
namespace Go.Sh
open Go
theorem add_add (a : Addr) (i j : Nat) : (a.add i).add j = a.add (i + j) := by
 unfold Addr.add
 by_cases hi : i = 0
 ·subst hi; simp
 ·by_cases hj : j = 0
  ·subst hj; simp
  ·rw [if_neg hi,if_neg hj,if_neg (by omega)]; simp [Nat.add_assoc]
theorem add_block (a : Addr) (i : Nat) : (a.add i).block = a.block := by unfold Addr.add; split <;> rfl
def Rd (w : World) (a : Option Addr) (xs : List Value) : Prop := ∀ j u,xs[j]? = some u -> ∃ ad,a = some ad /\ w.cell? (ad.add j) = some u
theorem Rd.nil (w : World) (a : Option Addr) : Rd w a [] := fun j u h => by simp at h
theorem Rd.at {w : World} {ad : Addr} {xs : List Value} (h : Rd w (some ad) xs) {j : Nat} {u : Value} (hj : xs[j]? = some u) : w.cell? (ad.add j) = some u := by
 obtain ⟨ad',e,h⟩ := h j u hj
 cases e
 exact h
theorem Rd.some {w : World} {a : Option Addr} {xs : List Value} (h : Rd w a xs) (hl : 0 < xs.length) : ∃ ad,a = some ad := by
 obtain ⟨ad,h,_⟩ := h 0 xs[0] (by simp [hl])
 exact ⟨ad,h⟩
theorem Rd.fr {w w' : World} {a : Option Addr} {xs : List Value} {S : Nat -> Prop} (h : Rd w a xs) (hf : Fr S w w') (hn : ∀ ad,a = .some ad -> ¬ S ad.block) : Rd w' a xs := by
 intro j u hj
 obtain ⟨ad,e,hc⟩ := h j u hj
 refine ⟨ad,e,?_⟩
 rw [← hc]
 refine World.cell?_of_block (hf.block _ ?_ ?_)
 ·exact World.block_lt_of_cell? w _ hc
 ·rw [add_block]; exact hn ad e
section
variable {w : World} {a : Addr}
theorem ldI_c {k : IntKind} {n : Int} {K : Int -> Prop} (h : w.cell? a = some (.int k n)) (hk : K n) : ldI k a w K := ⟨n,h,hk⟩
theorem ldB_c {n : Bool} {K : Bool -> Prop} (h : w.cell? a = some (.bool n)) (hk : K n) : ldB a w K := ⟨n,h,hk⟩
theorem ldS_c {n : ByteArray} {K : ByteArray -> Prop} (h : w.cell? a = some (.string n)) (hk : K n) : ldS a w K := ⟨n,h,hk⟩
theorem ldC_c {b : Option Addr} {l c : Nat} {K : Option Addr -> Nat -> Nat -> Prop} (h : w.cell? a = some (.slice b l c)) (hk : K b l c) : ldC a w K := ⟨b,l,c,h,hk⟩
end
theorem ixS_of {sz l : Nat} {ad : Addr} {i : Int} {K : Addr -> Prop} (h0 : 0 <= i) (h1 : i < (l : Int)) (hk : K (ad.add (i.toNat * sz))) : ixS sz (some ad) l i K := ⟨⟨h0,h1⟩,hk⟩
def Own (w : World) (base : Nat) (e : TypeId) (size : Nat) (a : Option Addr) (l c : Nat) (xs : List Value) : Prop := w.ownsRow base e size (.slice a l c) l xs
theorem Own.nil (w : World) (base : Nat) (e : TypeId) (size : Nat) : Own w base e size none 0 0 [] := World.ownsRow_nil w base e size
theorem Own.length {w : World} {base : Nat} {e : TypeId} {size : Nat} {a : Option Addr} {l c : Nat} {xs : List Value} (h : Own w base e size a l c xs) : xs.length = l * size := h.1
theorem Own.cases {w : World} {base : Nat} {e : TypeId} {size : Nat} {a : Option Addr} {l c : Nat} {xs : List Value} (h : Own w base e size a l c xs) :
  (a = none /\ l = 0 /\ c = 0) \/ ∃ g cur,a = some ⟨g,0,none⟩ /\ base <= g /\ w.heap[g]? = some (.cells cur e (0,0)) /\ l <= c /\ c <= maxLen /\ cur.size = c * size /\ cur.toList.take (l * size) = xs := by
 rcases h.2 with ⟨h1,h2⟩ | ⟨g,cap,cur,h1,h2,h3,h4,h5,h6,h7⟩
 ·cases h1; exact .inl ⟨rfl,rfl,rfl⟩
 ·cases h1; exact .inr ⟨g,cur,rfl,h2,h3,h4,h5,h6,h7⟩
theorem Own.rd {w : World} {base : Nat} {e : TypeId} {size : Nat} {a : Option Addr} {l c : Nat} {xs : List Value} (h : Own w base e size a l c xs) : Rd w a xs := by
 intro j u hj
 rcases h.cases with ⟨rfl,rfl,rfl⟩ | ⟨g,cur,rfl,h2,h3,h4,h5,h6,h7⟩
 ·have := h.length
  simp at this
  rw [this] at hj
  simp at hj
 ·refine ⟨_,rfl,?_⟩
  rw [add_mk,cell_at h3,Nat.zero_add]
  rw [← h7,List.getElem?_take] at hj
  split at hj
  ·simpa using hj
  ·cases hj
def inB (a : Option Addr) : Nat -> Prop := fun k => ∃ ad,a = some ad /\ ad.block = k
theorem Own.base_le {w : World} {base : Nat} {e : TypeId} {size : Nat} {a : Option Addr} {l c : Nat} {xs : List Value} (h : Own w base e size a l c xs) {k : Nat} (hk : inB a k) : base <= k /\ k < w.heap.size := by
 obtain ⟨ad,ha,rfl⟩ := hk
 rcases h.cases with ⟨rfl,rfl,rfl⟩ | ⟨g,cur,rfl,h2,h3,_⟩
 ·cases ha
 ·cases ha; exact ⟨h2,lt_of_blk h3⟩
theorem Own.fr {w w' : World} {base : Nat} {e : TypeId} {size : Nat} {a : Option Addr} {l c : Nat} {xs : List Value} {S : Nat -> Prop} (h : Own w base e size a l c xs) (hf : Fr S w w') (hn : ∀ k,inB a k -> ¬ S k) : Own w' base e size a l c xs := by
 rcases h.cases with ⟨rfl,rfl,rfl⟩ | ⟨g,cur,rfl,h2,h3,h4,h5,h6,h7⟩
 ·exact ⟨h.1,.inl ⟨rfl,rfl⟩⟩
 ·exact ⟨h.1,.inr ⟨g,c,cur,rfl,h2,hf.blk h3 (hn g ⟨_,rfl,rfl⟩),h4,h5,h6,h7⟩⟩
theorem Own.mono {w : World} {base base' : Nat} {e : TypeId} {size : Nat} {a : Option Addr} {l c : Nat} {xs : List Value} (h : Own w base e size a l c xs) (hb : base' <= base) : Own w base' e size a l c xs := by
 rcases h.cases with ⟨rfl,rfl,rfl⟩ | ⟨g,cur,rfl,h2,h3,h4,h5,h6,h7⟩
 ·exact ⟨h.1,.inl ⟨rfl,rfl⟩⟩
 ·exact ⟨h.1,.inr ⟨g,c,cur,rfl,by omega,h3,h4,h5,h6,h7⟩⟩
structure ElemT (P : Program) (t e : TypeId) (size bytes : Nat) (z : Value) (i : TypeInfo) : Prop where
 ht : P.underlying t = some (.slice e)
 hi : P.info? e = some i
 hz : i.zero = some z
 hsize : i.size = size
 hby : i.bytes = bytes
 hzs : z.cells.size = size
 pos : 0 < size
theorem append_own {P : Program} {w : World} {base : Nat} {t ty e : TypeId} {size bytes : Nat} {z : Value} {i : TypeInfo} (E : ElemT P t e size bytes z i) {a : Option Addr} {l c : Nat} {xs : List Value} (h : Own w base e size a l c xs)
  {b : Addr} {m d : Nat} {news : List Value} (hl : news.length = m * size) (hnews : Rd w (some b) news) (h1 : ∀ u ∈ news,u.oneCell' = true) (hn : l + m <= 281474976710656) (hb : (l + m) * bytes <= 140737488355328) (hbase : base <= w.heap.size) :
  ∃ a' l' c' w',Sem.run P (Builtin.append_ #[t,t] ty #[.slice a l c,.slice (some b) m d]) w = .ok (.slice a' l' c') w' /\ l' = l + m /\ Own w' base e size a' l' c' (xs ++ news) /\ Fr (inB a) w w' /\ (∀ k,inB a' k -> inB a k \/ w.heap.size <= k) := by
 obtain ⟨v',w',hr,ho,hg,hnil⟩ := run_append_own (P := P) w base t ty e i z size bytes E.ht E.hi E.hz E.hsize E.hby E.hzs E.pos _ l xs h b m d news hl (fun j u hj => hnews.at hj) h1 (by unfold maxLen; omega) hb hbase
 have hfr : Fr (inB a) w w' := ⟨hg.os,hg.tape,hg.output,hg.size,fun k hk hn => hg.block k hk fun e => hn (by
  cases a with
  | none => simp [Value.ownBlock] at e
  | some ad => simp [Value.ownBlock] at e; exact ⟨ad,rfl,e.symm⟩)⟩
 rcases ho.2 with ⟨rfl,h0⟩ | ⟨g,cap,cur,rfl,h2,h3,h4,h5,h6,h7⟩
 ·refine ⟨none,0,0,w',hr,by omega,?_,hfr,fun k ⟨ad,e,_⟩ => by cases e⟩
  rw [h0] at ho
  exact ho
 ·refine ⟨_,_,_,w',hr,rfl,ho,hfr,fun k ⟨ad,e,hk⟩ => ?_⟩
  cases e
  simp only at hk
  subst hk
  by_cases hlt : g < w.heap.size
  ·refine .inl ?_
   have hl' : news.length = m * i.size := by rw [E.hsize]; exact hl
   rcases h.cases with ⟨rfl,rfl,rfl⟩ | ⟨g',cur',rfl,k2,k3,k4,k5,k6,k7⟩
   ·exfalso
    by_cases hm : m = 0
    ·have := hnil.2 ⟨rfl,hm⟩
     cases this
    ·have hr2 := run_append_nil (P := P) w t ty e i z E.ht E.hi E.hz b m d news hl' (fun j u hj => hnews.at hj) (by omega) (by omega) (by rw [E.hby]; simp at hb; omega)
     rw [hr] at hr2
     simp only [Result.ok.injEq,Value.slice.injEq,Option.some.injEq,Addr.mk.injEq] at hr2
     omega
   ·refine ⟨_,rfl,?_⟩
    by_cases hroom : l + m <= c
    ·have hr2 := run_append_room (P := P) w t ty e i E.ht E.hi g' l c cur' k3 b m d news hl' (fun j u hj => hnews.at hj) h1 hroom (by rw [E.hsize,hl,k6,← Nat.add_mul]; exact Nat.mul_le_mul_right _ hroom)
     rw [hr] at hr2
     simp only [Result.ok.injEq,Value.slice.injEq,Option.some.injEq,Addr.mk.injEq] at hr2
     exact hr2.1.1.1.symm
    ·have hr2 := run_append_grow (P := P) w t ty e i z E.ht E.hi E.hz ⟨g',0,none⟩ l c xs (by rw [E.hsize]; exact h.length) (fun j u hj => h.rd.at hj) b m d news hl' (fun j u hj => hnews.at hj) (by omega) (by omega) (growslice_fits (by omega) (by rw [E.hby]; exact hb))
     rw [hr] at hr2
     simp only [Result.ok.injEq,Value.slice.injEq,Option.some.injEq,Addr.mk.injEq] at hr2
     omega
  ·exact .inr (by omega)
end Go.Sh
namespace Go.Sh
open Go
theorem Pres.alloc (w : World) (o : Obj) : Pres w (w.alloc o) :=
 ⟨by simp,fun a v h => by rw [← h]; exact World.cell?_of_block (alloc_old (World.block_lt_of_cell? w a h)),fun r es c h => alloc_blk h⟩
theorem push_own {P : Program} {w : World} {base : Nat} {t ty e : TypeId} {size bytes : Nat} {z : Value} {i : TypeInfo} (E : ElemT P t e size bytes z i) {a : Option Addr} {l c : Nat} {xs : List Value} (h : Own w base e size a l c xs)
  {news : Array Value} (hz : news.size = size) (h1 : ∀ u ∈ news.toList,u.oneCell' = true) (hn : l + 1 <= 281474976710656) (hb : (l + 1) * bytes <= 140737488355328) (hbase : base <= w.heap.size) :
  ∃ a' c' w',Sem.run P (Builtin.append_ #[t,t] ty #[.slice a l c,.slice (some (Addr.mk w.heap.size 0 none)) 1 1]) (w.alloc (.cells news e)) = .ok (.slice a' (l + 1) c') w' /\ Own w' base e size a' (l + 1) c' (xs ++ news.toList) /\ Fr (inB a) w w' /\ (∀ k,inB a' k -> inB a k \/ w.heap.size <= k) := by
 have hw : Fr (fun _ => False) w (w.alloc (.cells news e)) := (Fr.refl w).alloc _
 have h' : Own (w.alloc (.cells news e)) base e size a l c xs := h.fr hw fun _ _ h => h
 obtain ⟨a',l',c',w',hr,rfl,ho,hf,hi⟩ := append_own (ty := ty) E h' (b := Addr.mk w.heap.size 0 none) (m := 1) (d := 1) (news := news.toList) (by simp [hz])
  (fun j u hj => ⟨_,rfl,by rw [add_mk,cell_at (alloc_new w _)]; simpa using hj⟩) h1 hn hb (by simp; omega)
 refine ⟨a',c',w',hr,ho,(hw.mono (S' := inB a) fun i _ h => h.elim).trans hf fun i _ h => h,fun k hk => ?_⟩
 ·rcases hi k hk with h | h
  ·exact .inl h
  ·simp at h; exact .inr (by omega)
section
variable {P : Program} {w : World} {base : Nat} {t ty e : TypeId} {size bytes : Nat} {z : Value} {i : TypeInfo} {a : Option Addr} {l c : Nat} {xs : List Value} {news : Array Value}
theorem push {K : Option Addr -> Nat -> Nat -> World -> Prop} (E : ElemT P t e size bytes z i) (h : Own w base e size a l c xs) (hz : news.size = size) (h1 : ∀ u ∈ news.toList,u.oneCell' = true) (hn : l + 1 <= 281474976710656) (hb : (l + 1) * bytes <= 140737488355328) (hbase : base <= w.heap.size)
  (hk : ∀ a' c' w',Own w' base e size a' (l + 1) c' (xs ++ news.toList) -> Fr (inB a) w w' -> (∀ k,inB a' k -> inB a k \/ w.heap.size <= k) -> K a' (l + 1) c' w') :
  ∃ a' l' c' w',Sem.run P (Builtin.append_ #[t,t] ty #[.slice a l c,.slice (some (Addr.mk w.heap.size 0 none)) 1 1]) (w.alloc (.cells news e)) = .ok (.slice a' l' c') w' /\ K a' l' c' w' := by
 obtain ⟨a',c',w',hr,h2,h3,h4⟩ := push_own (ty := ty) E h hz h1 hn hb hbase
 exact ⟨a',_,c',w',hr,hk a' c' w' h2 h3 h4⟩
theorem Own.put {K : World -> Prop} {ad : Addr} {j : Nat} {v : Value} (h : Own w base e size (some ad) l c xs) (hj : j < xs.length)
  (hk : ∀ w',Own w' base e size (some ad) l c (xs.set j v) -> Fr (inB (some ad)) w w' -> K w') : stc (ad.add j) v w K := by
 rcases h.cases with ⟨h0,_⟩ | ⟨g,cur,h0,h2,h3,h4,h5,h6,h7⟩
 ·cases h0
 ·cases h0
  rw [add_mk,Nat.zero_add]
  have hl := h.length
  have hjc : j < cur.size := by have := Nat.mul_le_mul_right size h4; omega
  refine stc_at h3 hjc (hk _ ⟨by rw [List.length_set]; exact h.1,.inr ⟨g,c,_,rfl,h2,sb_same h3,h4,h5,by simpa using h6,?_⟩⟩ ((Fr.refl w).sb fun _ => ⟨_,rfl,rfl⟩))
  rw [Array.toList_setIfInBounds,List.take_set,h7]
theorem Own.cut {n : Nat} (h : Own w base e size a l c xs) (hn : n <= l) : Own w base e size a n c (xs.take (n * size)) := by
 have hl := h.length
 have hm := Nat.mul_le_mul_right size hn
 refine ⟨by rw [List.length_take]; omega,?_⟩
 rcases h.cases with ⟨rfl,rfl,rfl⟩ | ⟨g,cur,rfl,h2,h3,h4,h5,h6,h7⟩
 ·have : n = 0 := by omega
  subst this
  exact .inl ⟨rfl,rfl⟩
 ·exact .inr ⟨g,c,cur,rfl,h2,h3,by omega,h5,h6,by rw [← h7,List.take_take,Nat.min_eq_left hm]⟩
theorem Own.le (h : Own w base e size a l c xs) : l <= c := by
 rcases h.cases with ⟨rfl,rfl,rfl⟩ | ⟨g,cur,rfl,h2,h3,h4,h5,h6,h7⟩
 ·exact Nat.le_refl _
 ·exact h4
theorem slS_hi {sz : Nat} {k : IntKind} {n : Nat} {K : Option Addr -> Nat -> Nat -> Prop} (hn : n <= c) (hk : K a n c) : slS sz a l c none (some (.int k (n : Int))) K := by
 have : (if c = 0 then a else a.map (·.add (0 * sz))) = a := by
  split
  ·rfl
  ·cases a
   ·rfl
   ·simp [Addr.add]
 unfold slS bnd
 refine ⟨⟨by omega,by omega⟩,?_⟩
 show K (if c = 0 then a else a.map (·.add (0 * sz))) ((n : Int).toNat - 0) (c - 0)
 rw [this]
 simpa using hk
end
end Go.Sh
namespace Go.Sh
open Go
section
variable {P : Program} {w : World} {d : Nat} {xs ys : Array Value}
end
theorem make_own {P : Program} {w : World} {base : Nat} {t e : TypeId} {size bytes : Nat} {z : Value} {i : TypeInfo} (E : ElemT P t e size bytes z i) {K : Option Addr -> Nat -> Nat -> World -> Prop} {kl kc : IntKind} {n : Nat} (hn : n * size <= 16777216) (hb : bytes * n <= 281474976710656) (hm : n <= 281474976710656) (hbase : base <= w.heap.size)
  (hk : ∀ w',Own w' base e size (some ⟨w.heap.size,0,none⟩) n n (madeCells z.cells (n * size)).toList -> Fr (fun _ => False) w w' -> K (some ⟨w.heap.size,0,none⟩) n n w') :
  ∃ a l c w',Sem.run P (Instr.makeSlice t (.int kl (n : Int)) (.int kc (n : Int))) w = .ok (.slice a l c) w' /\ K a l c w' := by
 obtain ⟨w',hr,ho,hg⟩ := run_makeSlice_full (P := P) w base t e i z size E.ht E.hi E.hz E.hsize kl kc n hn (by rw [E.hby]; exact hb) (by unfold maxLen; omega) hbase
 exact ⟨_,_,_,w',hr,hk w' ho ⟨hg.os,hg.tape,hg.output,hg.size,fun k hk _ => hg.block k hk (by simp)⟩⟩
end Go.Sh
namespace Go.Sh
open Go
theorem setRow_sb {w : World} {g : Nat} {old cs : Array Value} {t : TypeId} {fr : Nat × Nat} (h : w.heap[g]? = some (.cells old t fr)) : w.setRow g cs = sb w g (.cells cs t fr) := by
 unfold World.setRow sb
 congr 1
 apply Array.ext_getElem?
 intro i
 rw [Array.getElem?_modify]
 by_cases hi : g = i
 ·subst hi
  have := lt_of_blk h
  rw [if_pos rfl,h]
  simp [this]
 ·rw [if_neg hi,Array.getElem?_setIfInBounds_ne hi]
section
variable {P : Program} {w : World} {base : Nat} {t ty e : TypeId} {size bytes : Nat} {z : Value} {i : TypeInfo} {ad b : Addr} {l c m d : Nat} {xs news : List Value}
theorem Own.tail (h : Own w base e size (some ad) l c xs) {j : Nat} (hj : j <= l) : ∃ b,(if c = j then some ad else (some ad).map (·.add (j * size))) = some b /\ Rd w (some b) (xs.drop (j * size)) := by
 by_cases hc : c = j
 ·rw [if_pos hc]
  refine ⟨ad,rfl,?_⟩
  have hl := h.length
  have hle := h.le
  have : xs.drop (j * size) = [] := List.drop_eq_nil_of_le (by rw [hl]; exact Nat.mul_le_mul_right _ (by omega))
  rw [this]
  exact Rd.nil _ _
 ·rw [if_neg hc]
  refine ⟨_,rfl,fun k u hk => ⟨_,rfl,?_⟩⟩
  rw [List.getElem?_drop] at hk
  rw [add_add]
  exact h.rd.at hk
end
end Go.Sh
namespace Go.Sh
open Go
abbrev Hl := Nat -> Option Obj
abbrev HP := Hl -> Prop
def hun (a b : Hl) : Hl := fun k => (a k).or (b k)
def dj (a b : Hl) : Prop := ∀ k,a k = none \/ b k = none
def star (A B : HP) : HP := fun h => ∃ x y,A x /\ B y /\ dj x y /\ h = hun x y
def emp : HP := fun h => h = fun _ => none
def bigS : List HP -> HP
 | [] => emp
 | A :: L => star A (bigS L)
def ag (h : Hl) (w : World) : Prop := ∀ b o,h b = some o -> w.heap[b]? = some o
def pt (b : Nat) (o : Obj) : HP := fun h => h = fun k => if k = b then some o else none
def ex {α : Sort _} (A : α -> HP) : HP := fun h => ∃ x,A x h
def pr (p : Prop) (A : HP) : HP := fun h => p /\ A h
abbrev Same (w w' : World) : Prop := Fr (fun _ => False) w w'
theorem dj.symm {a b : Hl} (h : dj a b) : dj b a := fun k => (h k).symm
theorem hun_comm {a b : Hl} (h : dj a b) : hun a b = hun b a := by
 funext k
 unfold hun
 rcases h k with h | h <;> rw [h] <;> simp
theorem hun_assoc (a b c : Hl) : hun (hun a b) c = hun a (hun b c) := by
 funext k
 unfold hun
 cases a k <;> simp
theorem hun_none {a b : Hl} {k : Nat} : hun a b k = none ↔ a k = none /\ b k = none := by
 unfold hun
 cases a k <;> simp
theorem dj_hun {a b c : Hl} : dj (hun a b) c ↔ dj a c /\ dj b c := by
 constructor
 ·intro h
  exact ⟨fun k => (h k).imp (fun x => (hun_none.1 x).1) id,fun k => (h k).imp (fun x => (hun_none.1 x).2) id⟩
 ·rintro ⟨h1,h2⟩ k
  rcases h1 k with a | a
  ·rcases h2 k with b | b
   ·exact .inl (hun_none.2 ⟨a,b⟩)
   ·exact .inr b
  ·exact .inr a
theorem dj_hun' {a b c : Hl} : dj a (hun b c) ↔ dj a b /\ dj a c := by
 constructor
 ·intro h
  have := dj_hun.1 h.symm
  exact ⟨this.1.symm,this.2.symm⟩
 ·rintro ⟨h1,h2⟩
  exact (dj_hun.2 ⟨h1.symm,h2.symm⟩).symm
theorem star_comm (A B : HP) : star A B = star B A := by
 funext h
 apply propext
 constructor <;>
 ·rintro ⟨x,y,a,b,d,rfl⟩
  exact ⟨y,x,b,a,d.symm,hun_comm d⟩
theorem star_assoc (A B C : HP) : star (star A B) C = star A (star B C) := by
 funext h
 apply propext
 constructor
 ·rintro ⟨z,c,⟨x,y,a,b,d,rfl⟩,hc,d2,rfl⟩
  obtain ⟨d3,d4⟩ := dj_hun.1 d2
  exact ⟨x,hun y c,a,⟨y,c,b,hc,d4,rfl⟩,dj_hun'.2 ⟨d,d3⟩,hun_assoc _ _ _⟩
 ·rintro ⟨x,z,a,⟨y,c,b,hc,d,rfl⟩,d2,rfl⟩
  obtain ⟨d3,d4⟩ := dj_hun'.1 d2
  exact ⟨hun x y,c,⟨x,y,a,b,d3,rfl⟩,hc,dj_hun.2 ⟨d4,d⟩,(hun_assoc _ _ _).symm⟩
theorem star_emp (A : HP) : star A emp = A := by
 funext h
 apply propext
 have e : ∀ x : Hl,hun x (fun _ => none) = x := fun x => by funext k; unfold hun; simp
 constructor
 ·rintro ⟨x,y,a,rfl,_,rfl⟩
  rw [e]; exact a
 ·intro a
  exact ⟨h,_,a,rfl,fun _ => .inr rfl,(e h).symm⟩
theorem emp_star (A : HP) : star emp A = A := by rw [star_comm,star_emp]
theorem star_left (A B C : HP) : star A (star B C) = star B (star A C) := by rw [← star_assoc,star_comm A B,star_assoc]
theorem bigS_append (L M : List HP) : bigS (L ++ M) = star (bigS L) (bigS M) := by
 induction L with
 | nil => simp [bigS,emp_star]
 | cons A L ih => rw [List.cons_append,bigS,bigS,ih,star_assoc]
theorem bigS_perm {L M : List HP} (h : L.Perm M) : bigS L = bigS M := by
 induction h with
 | nil => rfl
 | cons A _ ih => rw [bigS,bigS,ih]
 | swap A B L => rw [bigS,bigS,bigS,bigS,star_left]
 | trans _ _ h1 h2 => rw [h1,h2]
theorem bigS_focus {L : List HP} {i : Nat} {A : HP} (h : L[i]? = some A) : bigS L = star A (bigS (L.eraseIdx i)) := by
 induction L generalizing i with
 | nil => simp at h
 | cons B L ih =>
  cases i with
  | zero => simp at h; subst h; rfl
  | succ i =>
   rw [List.eraseIdx_cons_succ,bigS,bigS,ih (by simpa using h),star_left]
def Hs (W : World) (L : List HP) (w : World) : Prop := Same W w /\ ∃ h,bigS L h /\ ag h w /\ ∀ k,h k ≠ none -> W.heap.size <= k
theorem ag_lt {h : Hl} {w : World} (a : ag h w) {k : Nat} (hk : h k ≠ none) : k < w.heap.size := by
 cases e : h k with
 | none => exact absurd e hk
 | some o => exact lt_of_blk (a k o e)
section
variable {W w : World} {L M : List HP} {A B : HP}
theorem Hs.old (h : Hs W L w) : Same W w := h.1
theorem Hs.start (W : World) : Hs W [] W := ⟨Fr.refl W,_,rfl,fun _ _ e => by simp at e,fun _ e => absurd rfl e⟩
theorem Hs.size (h : Hs W L w) : W.heap.size <= w.heap.size := h.1.size
theorem Hs.of_eq (h : Hs W L w) (e : bigS L = bigS M) : Hs W M w := by
 obtain ⟨f,x,b,r⟩ := h
 exact ⟨f,x,e ▸ b,r⟩
theorem Hs.perm (h : Hs W L w) (p : L.Perm M) : Hs W M w := h.of_eq (bigS_perm p)
theorem Hs.drop (h : Hs W (A :: L) w) : Hs W L w := by
 obtain ⟨f,x,⟨y,z,_,hz,d,rfl⟩,a,b⟩ := h
 refine ⟨f,z,hz,fun k o e => a k o ?_,fun k e => b k fun x => e (hun_none.1 x).2⟩
 unfold hun
 rcases d k with d | d
 ·rw [d]; simpa using e
 ·rw [d] at e; cases e
theorem Hs.focus (h : Hs W L w) {i : Nat} (hi : L[i]? = some A) : Hs W (A :: L.eraseIdx i) w := h.of_eq (bigS_focus hi)
theorem Hs.unfocus {i : Nat} (h : Hs W (A :: L.eraseIdx i) w) (hi : i < L.length) : Hs W (L.set i A) w := by
 refine h.of_eq ?_
 have e1 : (L.set i A)[i]? = some A := by simp [hi]
 have e2 : (L.set i A).eraseIdx i = L.eraseIdx i := by rw [List.eraseIdx_set_eq]
 rw [bigS_focus e1,e2]
 rfl
theorem Hs.erase (h : Hs W L w) (i : Nat) : Hs W (L.eraseIdx i) w := by
 cases e : L[i]? with
 | none =>
  have : L.length <= i := by simpa using e
  rw [List.eraseIdx_of_length_le this]; exact h
 | some A => exact (h.focus e).drop
def pickAt (L : List HP) : List Nat -> List HP
 | [] => []
 | i :: r => (match L[i]? with | some A => A | none => emp) :: pickAt L r
theorem emp_intro : bigS (emp :: L) = bigS L := by rw [bigS,emp_star]
theorem pick_aux : ∀ (is : List Nat) (L : List HP),is.Nodup -> ∃ R,bigS L = bigS (pickAt L is ++ R)
 | [],L,_ => ⟨L,rfl⟩
 | i :: r,L,hn => by
  rw [List.nodup_cons] at hn
  -- set the i-th to emp: the others are as_ before
  have hset : pickAt (L.set i emp) r = pickAt L r := by
   have : ∀ r : List Nat,i ∉ r -> pickAt (L.set i emp) r = pickAt L r := by
    intro r
    induction r with
    | nil => intro _; rfl
    | cons j r ih =>
     intro hj
     simp only [List.mem_cons,not_or] at hj
     unfold pickAt
     rw [ih hj.2,List.getElem?_set_ne hj.1]
   exact this r hn.1
  obtain ⟨R,hR⟩ := pick_aux r (L.set i emp) hn.2
  rw [hset] at hR
  refine ⟨R,?_⟩
  show _ = star _ (bigS (pickAt L r ++ R))
  rw [← hR]
  cases e : L[i]? with
  | none =>
   have hle : L.length <= i := by simpa using e
   simp only
   rw [emp_star,List.set_eq_of_length_le hle]
  | some A =>
   have hlt := (List.getElem?_eq_some_iff.1 e).1
   have e1 : (L.set i emp)[i]? = some emp := by simp [hlt]
   simp only
   rw [bigS_focus e,bigS_focus e1,List.eraseIdx_set_eq,emp_star]
theorem Hs.pick (h : Hs W L w) (is : List Nat) (hn : is.Nodup := by decide) : Hs W (pickAt L is) w := by
 obtain ⟨R,e⟩ := pick_aux is L hn
 have h := h.of_eq e
 rw [bigS_append] at e
 have : ∀ (R : List HP),Hs W (pickAt L is ++ R) w -> Hs W (pickAt L is) w := by
  intro R h
  have := (h.perm List.perm_append_comm)
  clear h
  induction R with
  | nil => simpa using this
  | cons A R ih => exact ih this.drop
 exact this R h
theorem Hs.same {w' : World} (h : Hs W L w) (hs : Same w w') : Hs W L w' := by
 obtain ⟨f,x,b,a,r⟩ := h
 exact ⟨f.trans hs fun _ _ x => x,x,b,fun k o e => hs.blk (a k o e) fun x => x,r⟩
theorem Hs.drew (h : Hs W L w) : Hs W L w.drew := h.same (Fr.refl w).drew
theorem Hs.cons_ex {α : Sort _} {F : α -> HP} : Hs W (ex F :: L) w ↔ ∃ x,Hs W (F x :: L) w := by
 constructor
 ·rintro ⟨f,h,⟨y,z,⟨x,hy⟩,hz,d,e⟩,r⟩
  exact ⟨x,f,h,⟨y,z,hy,hz,d,e⟩,r⟩
 ·rintro ⟨x,f,h,⟨y,z,hy,hz,d,e⟩,r⟩
  exact ⟨f,h,⟨y,z,⟨x,hy⟩,hz,d,e⟩,r⟩
theorem Hs.cons_pr {p : Prop} : Hs W (pr p A :: L) w ↔ p /\ Hs W (A :: L) w := by
 constructor
 ·rintro ⟨f,h,⟨y,z,⟨x,hy⟩,hz,d,e⟩,r⟩
  exact ⟨x,f,h,⟨y,z,hy,hz,d,e⟩,r⟩
 ·rintro ⟨x,f,h,⟨y,z,hy,hz,d,e⟩,r⟩
  exact ⟨f,h,⟨y,z,⟨x,hy⟩,hz,d,e⟩,r⟩
theorem Hs.cons_bigS : Hs W (bigS M :: L) w ↔ Hs W (M ++ L) w :=
 ⟨fun h => h.of_eq (bigS_append M L).symm,fun h => h.of_eq (bigS_append M L)⟩
theorem Hs.append_assoc {X Y : List HP} : Hs W (X ++ (Y ++ L)) w ↔ Hs W ((X ++ Y) ++ L) w := by rw [List.append_assoc]
theorem Hs.upd {w' : World} (h : Hs W L w) (i : Nat) (hi : L[i]? = some A)
  (hk : ∀ x,A x -> ag x w -> (∀ k,x k ≠ none -> W.heap.size <= k) -> ∃ y,B y /\ ag y w' /\ (∀ k,y k ≠ none -> x k ≠ none \/ w.heap.size <= k) /\ Fr (fun k => x k ≠ none) w w') : Hs W (L.set i B) w' := by
 have h1 := h.focus hi
 refine Hs.unfocus ?_ (List.getElem?_eq_some_iff.1 hi).1
 generalize L.eraseIdx i = R at h1 ⊢
 obtain ⟨f,g,⟨x,z,hx,hz,d,rfl⟩,a,b⟩ := h1
 have ax : ag x w := fun k o e => a k o (by unfold hun; rw [e]; rfl)
 have az : ag z w := fun k o e => a k o (by
  unfold hun
  rcases d k with d | d
  ·rw [d]; simpa using e
  ·rw [d] at e; cases e)
 have bx : ∀ k,x k ≠ none -> W.heap.size <= k := fun k e => b k fun u => e (hun_none.1 u).1
 have bz : ∀ k,z k ≠ none -> W.heap.size <= k := fun k e => b k fun u => e (hun_none.1 u).2
 obtain ⟨y,hy,ay,sy,fr⟩ := hk x hx ax bx
 refine ⟨((f.mono (S' := fun k => W.heap.size <= k) fun _ _ x => x.elim).trans fr fun k hk e => bx k e).mono fun i hi x => by omega,hun y z,⟨y,z,hy,hz,fun k => ?_,rfl⟩,fun k o e => ?_,fun k e => ?_⟩
 ·rcases Classical.em (y k = none) with h | h
  ·exact .inl h
  ·refine .inr ?_
   rcases sy k h with h | h
   ·exact (d k).resolve_left h
   ·rcases Classical.em (z k = none) with hz' | hz'
    ·exact hz'
    ·have := ag_lt az hz'; omega
 ·unfold hun at e
  cases ey : y k with
  | some o' => rw [ey] at e; cases e; exact ay k _ ey
  | none =>
   rw [ey] at e
   have e : z k = some o := by simpa using e
   have hk' := az k o e
   refine fr.blk hk' fun hx' => ?_
   rcases d k with d | d
   ·exact hx' d
   ·rw [d] at e; cases e
 ·rcases Classical.em (y k = none) with h | h
  ·exact bz k fun u => e (hun_none.2 ⟨h,u⟩)
  ·rcases sy k h with h | h
   ·exact bx k h
   ·have := f.size; omega
theorem Hs.new {w' : World} (h : Hs W L w) (hs : Same w w') {x : Hl} (hx : A x) (a : ag x w') (b : ∀ k,x k ≠ none -> w.heap.size <= k) : Hs W (A :: L) w' := by
 obtain ⟨f,g,hg,ag',bg⟩ := h
 refine ⟨f.trans hs fun _ _ x => x,hun x g,⟨x,g,hx,hg,fun k => ?_,rfl⟩,fun k o e => ?_,fun k e => ?_⟩
 ·rcases Classical.em (x k = none) with h | h
  ·exact .inl h
  ·refine .inr ?_
   rcases Classical.em (g k = none) with h' | h'
   ·exact h'
   ·have := ag_lt ag' h'; have := b k h; omega
 ·unfold hun at e
  cases ex' : x k with
  | some o' => rw [ex'] at e; cases e; exact a k _ ex'
  | none =>
   rw [ex'] at e
   exact hs.blk (ag' k o (by simpa using e)) fun x => x
 ·rcases Classical.em (x k = none) with h | h
  ·exact bg k fun u => e (hun_none.2 ⟨h,u⟩)
  ·have := b k h; have := f.size; omega
theorem Hs.look (h : Hs W L w) {i : Nat} (hi : L[i]? = some A) : ∃ x,A x /\ ag x w /\ ∀ k,x k ≠ none -> W.heap.size <= k := by
 obtain ⟨f,g,⟨x,z,hx,hz,d,rfl⟩,a,b⟩ := h.focus hi
 exact ⟨x,hx,fun k o e => a k o (by unfold hun; rw [e]; rfl),fun k e => b k fun u => e (hun_none.1 u).1⟩
theorem Hs.at (h : Hs W L w) (i : Nat) {b : Nat} {o : Obj} (hi : L[i]? = some (pt b o)) : w.heap[b]? = some o := by
 obtain ⟨x,rfl,a,_⟩ := h.look hi
 exact a b o (by simp)
theorem Hs.sb (h : Hs W L w) (i : Nat) {b : Nat} {o : Obj} (hi : L[i]? = some (pt b o)) (o' : Obj) : Hs W (L.set i (pt b o')) (Sh.sb w b o') := by
 refine h.upd i hi ?_
 rintro _ rfl a l
 have hb := a b o (by simp)
 refine ⟨_,rfl,fun k o1 e => ?_,fun k e => .inl ?_,(Fr.refl w).sb fun _ => by simp⟩
 ·by_cases hk : k = b
  ·subst hk
   simp at e; subst e
   exact sb_same hb
  ·simp [hk] at e
 ·by_cases hk : k = b
  ·subst hk; simp
  ·simp [hk] at e
theorem Hs.alloc (h : Hs W L w) (o : Obj) : Hs W (pt w.heap.size o :: L) (w.alloc o) :=
 h.new ((Fr.refl w).alloc _) rfl (fun k o' e => by
  by_cases hk : k = w.heap.size
  ·subst hk; simp at e; subst e; exact alloc_new w _
  ·simp [hk] at e) (fun k e => by
  by_cases hk : k = w.heap.size
  ·omega
  ·simp [hk] at e)
variable {K : World -> Prop}
theorem Hs.alc (h : Hs W L w) {o : Obj} {K : Nat -> World -> Prop} (hk : ∀ b w',Hs W (pt b o :: L) w' -> K b w') : Sh.alc o w K := hk _ _ (h.alloc o)
theorem Hs.drw (h : Hs W L w) (hk : ∀ w',Hs W L w' -> K w') : Sh.drw w K := hk _ h.drew
theorem Hs.stc (h : Hs W L w) (i : Nat) {b o : Nat} {cs : Array Value} {T : TypeId} {v : Value} (hi : L[i]? = some (pt b (.cells cs T (0,0)))) (ho : o < cs.size)
  (hk : ∀ w',Hs W (L.set i (pt b (.cells (cs.setIfInBounds o v) T (0,0)))) w' -> K w') : Sh.stc (Addr.mk b o none) v w K :=
 stc_at (h.at i hi) ho (hk _ (h.sb i hi _))
theorem Hs.ldI (h : Hs W L w) (i : Nat) {b o : Nat} {cs : Array Value} {T : TypeId} {k : IntKind} {n : Int} {K : Int -> Prop} (hi : L[i]? = some (pt b (.cells cs T (0,0)))) (hv : cs[o]? = some (.int k n)) (hk : K n) : Sh.ldI k (Addr.mk b o none) w K := ldI_at (h.at i hi) hv hk
theorem Hs.ldB (h : Hs W L w) (i : Nat) {b o : Nat} {cs : Array Value} {T : TypeId} {n : Bool} {K : Bool -> Prop} (hi : L[i]? = some (pt b (.cells cs T (0,0)))) (hv : cs[o]? = some (.bool n)) (hk : K n) : Sh.ldB (Addr.mk b o none) w K := ldB_at (h.at i hi) hv hk
theorem Hs.ldS (h : Hs W L w) (i : Nat) {b o : Nat} {cs : Array Value} {T : TypeId} {n : ByteArray} {K : ByteArray -> Prop} (hi : L[i]? = some (pt b (.cells cs T (0,0)))) (hv : cs[o]? = some (.string n)) (hk : K n) : Sh.ldS (Addr.mk b o none) w K := ldS_at (h.at i hi) hv hk
theorem Hs.ldP (h : Hs W L w) (i : Nat) {b o : Nat} {cs : Array Value} {T : TypeId} {n : Option Addr} {K : Option Addr -> Prop} (hi : L[i]? = some (pt b (.cells cs T (0,0)))) (hv : cs[o]? = some (.pointer n)) (hk : K n) : Sh.ldP (Addr.mk b o none) w K := ldP_at (h.at i hi) hv hk
theorem Hs.ldC (h : Hs W L w) (i : Nat) {b o : Nat} {cs : Array Value} {T : TypeId} {a : Option Addr} {l c : Nat} {K : Option Addr -> Nat -> Nat -> Prop} (hi : L[i]? = some (pt b (.cells cs T (0,0)))) (hv : cs[o]? = some (.slice a l c)) (hk : K a l c) : Sh.ldC (Addr.mk b o none) w K := ldC_at (h.at i hi) hv hk
def slP (e : TypeId) (size : Nat) (a : Option Addr) (l c : Nat) (xs : List Value) : HP := fun h =>
 xs.length = l * size /\ ((a = none /\ l = 0 /\ c = 0 /\ h = fun _ => none) \/ ∃ g cur,a = some ⟨g,0,none⟩ /\ pt g (.cells cur e (0,0)) h /\ l <= c /\ c <= maxLen /\ cur.size = c * size /\ cur.toList.take (l * size) = xs)
variable {e : TypeId} {size : Nat} {a : Option Addr} {l c : Nat} {xs : List Value}
theorem own_of {x : Hl} {B : Nat} (hx : slP e size a l c xs x) (g : ag x w) (lo : ∀ k,x k ≠ none -> B <= k) : Own w B e size a l c xs := by
 obtain ⟨hl,hx⟩ := hx
 rcases hx with ⟨rfl,rfl,rfl,rfl⟩ | ⟨b,cur,rfl,rfl,h1,h2,h3,h4⟩
 ·exact ⟨hl,.inl ⟨rfl,rfl⟩⟩
 ·exact ⟨hl,.inr ⟨b,c,cur,rfl,lo b (by simp),g b _ (by simp),h1,h2,h3,h4⟩⟩
theorem inB_of {x : Hl} (hx : slP e size a l c xs x) (k : Nat) : x k ≠ none ↔ inB a k := by
 obtain ⟨_,hx⟩ := hx
 rcases hx with ⟨rfl,rfl,rfl,rfl⟩ | ⟨b,cur,rfl,rfl,_⟩
 ·simp [inB]
 ·simp only [inB,Option.some.injEq,exists_eq_left',ne_eq]
  constructor
  ·intro h
   by_cases hk : k = b
   ·exact hk.symm
   ·simp [hk] at h
  ·rintro rfl; simp
theorem own_to {B : Nat} (h : Own w B e size a l c xs) : ∃ x,slP e size a l c xs x /\ ag x w := by
 rcases h.cases with ⟨rfl,rfl,rfl⟩ | ⟨g,cur,rfl,h2,h3,h4,h5,h6,h7⟩
 ·exact ⟨fun _ => none,⟨h.1,.inl ⟨rfl,rfl,rfl,rfl⟩⟩,fun _ _ e => by simp at e⟩
 ·refine ⟨_,⟨h.1,.inr ⟨g,cur,rfl,rfl,h4,h5,h6,h7⟩⟩,fun k o e => ?_⟩
  by_cases hk : k = g
  ·subst hk; simp at e; subst e; exact h3
  ·simp [hk] at e
theorem Hs.own (h : Hs W L w) (i : Nat) (hi : L[i]? = some (slP e size a l c xs)) : Own w W.heap.size e size a l c xs := by
 obtain ⟨x,hx,g,lo⟩ := h.look hi
 exact own_of hx g lo
theorem Hs.rd (h : Hs W L w) (i : Nat) (hi : L[i]? = some (slP e size a l c xs)) : Rd w a xs := (h.own i hi).rd
theorem Hs.slice {w' : World} {a' : Option Addr} {l' c' : Nat} {xs' : List Value} {B : Nat} (h : Hs W L w) (i : Nat) (hi : L[i]? = some (slP e size a l c xs)) (ho : Own w' B e size a' l' c' xs') (hf : Fr (inB a) w w') (hn : ∀ k,inB a' k -> inB a k \/ w.heap.size <= k) : Hs W (L.set i (slP e size a' l' c' xs')) w' := by
 refine h.upd i hi fun x hx g lo => ?_
 obtain ⟨y,hy,gy⟩ := own_to ho
 refine ⟨y,hy,gy,fun k hk => ?_,hf.mono fun k _ hk => (inB_of hx k).2 hk⟩
 rcases hn k ((inB_of hy k).1 hk) with h | h
 ·exact .inl ((inB_of hx k).2 h)
 ·exact .inr h
theorem Hs.new_own {w' : World} {B : Nat} (h : Hs W L w) (hs : Same w w') (ho : Own w' B e size a l c xs) (hn : ∀ k,inB a k -> w.heap.size <= k) : Hs W (slP e size a l c xs :: L) w' := by
 obtain ⟨y,hy,gy⟩ := own_to ho
 exact h.new hs hy gy fun k hk => hn k ((inB_of hy k).1 hk)
theorem Hs.nil (h : Hs W L w) (e : TypeId) (size : Nat) : Hs W (slP e size none 0 0 [] :: L) w := h.new_own (Fr.refl w) (Own.nil w 0 e size) fun k ⟨_,e,_⟩ => by cases e
theorem Hs.own_new (h : Hs W L w) {w' : World} (hs : Same w w') (ho : Own w' w.heap.size e size a l c xs) : Hs W (slP e size a l c xs :: L) w' := h.new_own hs ho fun _ hk => (ho.base_le hk).1
variable {P : Program} {t ty : TypeId} {bytes : Nat} {z : Value} {inf : TypeInfo}
theorem Hs.append (E : ElemT P t e size bytes z inf) (h : Hs W L w) (i : Nat) (hi : L[i]? = some (slP e size a l c xs)) {b : Addr} {m d : Nat} {news : List Value} (hl : news.length = m * size) (hnews : Rd w (some b) news) (h1 : ∀ u ∈ news,u.oneCell' = true) (hn : l + m <= 281474976710656) (hb : (l + m) * bytes <= 140737488355328)
  {K : Option Addr -> Nat -> Nat -> World -> Prop} (hk : ∀ a' c' w',Hs W (L.set i (slP e size a' (l + m) c' (xs ++ news))) w' -> Fr (inB a) w w' -> K a' (l + m) c' w') :
  ∃ a' l' c' w',Sem.run P (Builtin.append_ #[t,t] ty #[.slice a l c,.slice (some b) m d]) w = .ok (.slice a' l' c') w' /\ K a' l' c' w' := by
 obtain ⟨a',l',c',w',hr,rfl,ho,hf,hs⟩ := append_own (ty := ty) E (h.own i hi) (d := d) hl hnews h1 hn hb h.size
 exact ⟨a',_,c',w',hr,hk a' c' w' (h.slice i hi ho hf hs) hf⟩
theorem Hs.push (E : ElemT P t e size bytes z inf) (h : Hs W L w) (i : Nat) (hi : L[i]? = some (slP e size a l c xs)) {news : Array Value} (hz : news.size = size) (h1 : ∀ u ∈ news.toList,u.oneCell' = true) (hn : l + 1 <= 281474976710656) (hb : (l + 1) * bytes <= 140737488355328)
  {K : Option Addr -> Nat -> Nat -> World -> Prop} (hk : ∀ a' c' w',Hs W (L.set i (slP e size a' (l + 1) c' (xs ++ news.toList))) w' -> K a' (l + 1) c' w') :
  ∃ a' l' c' w',Sem.run P (Builtin.append_ #[t,t] ty #[.slice a l c,.slice (some (Addr.mk w.heap.size 0 none)) 1 1]) (w.alloc (.cells news e)) = .ok (.slice a' l' c') w' /\ K a' l' c' w' :=
 Sh.push E (h.own i hi) hz h1 hn hb h.size fun a' c' w' ho hf hs => hk a' c' w' (h.slice i hi ho hf hs)
theorem Hs.put {ad : Addr} {j : Nat} {v : Value} (h : Hs W L w) (i : Nat) (hi : L[i]? = some (slP e size (some ad) l c xs)) (hj : j < xs.length) (hk : ∀ w',Hs W (L.set i (slP e size (some ad) l c (xs.set j v))) w' -> K w') : Sh.stc (ad.add j) v w K :=
 Own.put (h.own i hi) hj fun w' ho hf => hk w' (h.slice i hi ho hf fun _ hk => .inl hk)
theorem Hs.cut {n : Nat} (h : Hs W L w) (i : Nat) (hi : L[i]? = some (slP e size a l c xs)) (hn : n <= l) : Hs W (L.set i (slP e size a n c (xs.take (n * size)))) w :=
 h.slice i hi ((h.own i hi).cut hn) (Fr.refl w) fun _ hk => .inl hk
theorem Hs.make (E : ElemT P t e size bytes z inf) (h : Hs W L w) {kl kc : IntKind} {n : Nat} (hn : n * size <= 16777216) (hb : bytes * n <= 281474976710656) (hm : n <= 281474976710656) {K : Option Addr -> Nat -> Nat -> World -> Prop}
  (hk : ∀ a w',Hs W (slP e size a n n (madeCells z.cells (n * size)).toList :: L) w' -> Same w w' -> K a n n w') :
  ∃ a l c w',Sem.run P (Instr.makeSlice t (.int kl (n : Int)) (.int kc (n : Int))) w = .ok (.slice a l c) w' /\ K a l c w' :=
 make_own (base := w.heap.size) E hn hb hm (Nat.le_refl _) fun w' ho hf => hk _ w' (h.own_new hf ho) hf
end
end Go.Sh
