/- Own text: part of the shallow reading of the code and of the contracts that are proved over it. -/
import Derived.Test.YtilenpnpnbdndaaGreatDoorShI
import Derived.Laws.AppendOwn
import Derived.Laws.StructEq
import Derived.ChangeKeysEq
import Derived.Laws.OwnMore
import Derived.Laws.CopyRow
namespace Go.Sh
open Go
theorem add_add (a : Addr) (i j : Nat) : (a.add i).add j = a.add (i + j) := by
  unfold Addr.add
  by_cases hi : i = 0
  · subst hi; simp
  · by_cases hj : j = 0
    · subst hj; simp
    · rw [if_neg hi,if_neg hj,if_neg (by omega)]; simp [Nat.add_assoc]
theorem add_block (a : Addr) (i : Nat) : (a.add i).block = a.block := by unfold Addr.add; split <;> rfl
def Rd (w : World) (a : Option Addr) (xs : List Value) : Prop := ∀ j u,xs[j]? = some u -> ∃ ad,a = some ad /\ w.cell? (ad.add j) = some u
theorem Rd.nil (w : World) (a : Option Addr) : Rd w a [] := fun j u h => by simp at h
theorem Rd.at {w : World} {ad : Addr} {xs : List Value} (h : Rd w (some ad) xs) {j : Nat} {u : Value} (hj : xs[j]? = some u) : w.cell? (ad.add j) = some u := by
  obtain ⟨ad',e,h⟩ := h j u hj
  cases e
  exact h
theorem Rd.some {w : World} {a : Option Addr} {xs : List Value} (h : Rd w a xs) (hl : 0 < xs.length) : ∃ ad,a = some ad := by
  obtain ⟨ad,h,_⟩ := h 0 xs[0] (by simp [hl])
  exact ⟨ad,h⟩
theorem Rd.fr {w w' : World} {a : Option Addr} {xs : List Value} {S : Nat -> Prop} (h : Rd w a xs) (hf : Fr S w w') (hn : ∀ ad,a = .some ad -> ¬ S ad.block) : Rd w' a xs := by
  intro j u hj
  obtain ⟨ad,e,hc⟩ := h j u hj
  refine ⟨ad,e,?_⟩
  rw [← hc]
  refine World.cell?_of_block (hf.block _ ?_ ?_)
  · exact World.block_lt_of_cell? w _ hc
  · rw [add_block]; exact hn ad e
section
variable {w : World} {a : Addr}
theorem ldI_c {k : IntKind} {n : Int} {K : Int -> Prop} (h : w.cell? a = some (.int k n)) (hk : K n) : ldI k a w K := ⟨n,h,hk⟩
theorem ldB_c {n : Bool} {K : Bool -> Prop} (h : w.cell? a = some (.bool n)) (hk : K n) : ldB a w K := ⟨n,h,hk⟩
theorem ldS_c {n : ByteArray} {K : ByteArray -> Prop} (h : w.cell? a = some (.string n)) (hk : K n) : ldS a w K := ⟨n,h,hk⟩
theorem ldC_c {b : Option Addr} {l c : Nat} {K : Option Addr -> Nat -> Nat -> Prop} (h : w.cell? a = some (.slice b l c)) (hk : K b l c) : ldC a w K := ⟨b,l,c,h,hk⟩
end
theorem ixS_of {sz l : Nat} {ad : Addr} {i : Int} {K : Addr -> Prop} (h0 : 0 <= i) (h1 : i < (l : Int)) (hk : K (ad.add (i.toNat * sz))) : ixS sz (some ad) l i K := ⟨⟨h0,h1⟩,hk⟩
def Own (w : World) (base : Nat) (e : TypeId) (size : Nat) (a : Option Addr) (l c : Nat) (xs : List Value) : Prop := w.ownsRow base e size (.slice a l c) l xs
theorem Own.nil (w : World) (base : Nat) (e : TypeId) (size : Nat) : Own w base e size none 0 0 [] := World.ownsRow_nil w base e size
theorem Own.length {w : World} {base : Nat} {e : TypeId} {size : Nat} {a : Option Addr} {l c : Nat} {xs : List Value} (h : Own w base e size a l c xs) : xs.length = l * size := h.1
theorem Own.cases {w : World} {base : Nat} {e : TypeId} {size : Nat} {a : Option Addr} {l c : Nat} {xs : List Value} (h : Own w base e size a l c xs) :
    (a = none /\ l = 0 /\ c = 0) \/ ∃ g cur,a = some ⟨g,0,none⟩ /\ base <= g /\ w.heap[g]? = some (.cells cur e (0,0)) /\ l <= c /\ c <= maxLen /\ cur.size = c * size /\ cur.toList.take (l * size) = xs := by
  rcases h.2 with ⟨h1,h2⟩ | ⟨g,cap,cur,h1,h2,h3,h4,h5,h6,h7⟩
  · cases h1; exact .inl ⟨rfl,rfl,rfl⟩
  · cases h1; exact .inr ⟨g,cur,rfl,h2,h3,h4,h5,h6,h7⟩
theorem Own.rd {w : World} {base : Nat} {e : TypeId} {size : Nat} {a : Option Addr} {l c : Nat} {xs : List Value} (h : Own w base e size a l c xs) : Rd w a xs := by
  intro j u hj
  rcases h.cases with ⟨rfl,rfl,rfl⟩ | ⟨g,cur,rfl,h2,h3,h4,h5,h6,h7⟩
  · have := h.length
    simp at this
    rw [this] at hj
    simp at hj
  · refine ⟨_,rfl,?_⟩
    rw [add_mk,cell_at h3,Nat.zero_add]
    rw [← h7,List.getElem?_take] at hj
    split at hj
    · simpa using hj
    · cases hj
def inB (a : Option Addr) : Nat -> Prop := fun k => ∃ ad,a = some ad /\ ad.block = k
theorem Own.base_le {w : World} {base : Nat} {e : TypeId} {size : Nat} {a : Option Addr} {l c : Nat} {xs : List Value} (h : Own w base e size a l c xs) {k : Nat} (hk : inB a k) : base <= k /\ k < w.heap.size := by
  obtain ⟨ad,ha,rfl⟩ := hk
  rcases h.cases with ⟨rfl,rfl,rfl⟩ | ⟨g,cur,rfl,h2,h3,_⟩
  · cases ha
  · cases ha; exact ⟨h2,lt_of_blk h3⟩
theorem Own.fr {w w' : World} {base : Nat} {e : TypeId} {size : Nat} {a : Option Addr} {l c : Nat} {xs : List Value} {S : Nat -> Prop} (h : Own w base e size a l c xs) (hf : Fr S w w') (hn : ∀ k,inB a k -> ¬ S k) : Own w' base e size a l c xs := by
  rcases h.cases with ⟨rfl,rfl,rfl⟩ | ⟨g,cur,rfl,h2,h3,h4,h5,h6,h7⟩
  · exact ⟨h.1,.inl ⟨rfl,rfl⟩⟩
  · exact ⟨h.1,.inr ⟨g,c,cur,rfl,h2,hf.blk h3 (hn g ⟨_,rfl,rfl⟩),h4,h5,h6,h7⟩⟩
theorem Own.mono {w : World} {base base' : Nat} {e : TypeId} {size : Nat} {a : Option Addr} {l c : Nat} {xs : List Value} (h : Own w base e size a l c xs) (hb : base' <= base) : Own w base' e size a l c xs := by
  rcases h.cases with ⟨rfl,rfl,rfl⟩ | ⟨g,cur,rfl,h2,h3,h4,h5,h6,h7⟩
  · exact ⟨h.1,.inl ⟨rfl,rfl⟩⟩
  · exact ⟨h.1,.inr ⟨g,c,cur,rfl,by omega,h3,h4,h5,h6,h7⟩⟩
structure ElemT (P : Program) (t e : TypeId) (size bytes : Nat) (z : Value) (i : TypeInfo) : Prop where
  ht : P.underlying t = some (.slice e)
  hi : P.info? e = some i
  hz : i.zero = some z
  hsize : i.size = size
  hby : i.bytes = bytes
  hzs : z.cells.size = size
  pos : 0 < size
theorem append_own {P : Program} {w : World} {base : Nat} {t ty e : TypeId} {size bytes : Nat} {z : Value} {i : TypeInfo} (E : ElemT P t e size bytes z i) {a : Option Addr} {l c : Nat} {xs : List Value} (h : Own w base e size a l c xs)
    {b : Addr} {m d : Nat} {news : List Value} (hl : news.length = m * size) (hnews : Rd w (some b) news) (h1 : ∀ u ∈ news,u.oneCell' = true) (hn : l + m <= 281474976710656) (hb : (l + m) * bytes <= 140737488355328) (hbase : base <= w.heap.size) :
    ∃ a' l' c' w',Sem.run P (Builtin.append_ #[t,t] ty #[.slice a l c,.slice (some b) m d]) w = .ok (.slice a' l' c') w' /\ l' = l + m /\ Own w' base e size a' l' c' (xs ++ news) /\ Fr (inB a) w w' /\ (∀ k,inB a' k -> inB a k \/ w.heap.size <= k) := by
  obtain ⟨v',w',hr,ho,hg,hnil⟩ := run_append_own (P := P) w base t ty e i z size bytes E.ht E.hi E.hz E.hsize E.hby E.hzs E.pos _ l xs h b m d news hl (fun j u hj => hnews.at hj) h1 (by unfold maxLen; omega) hb hbase
  have hfr : Fr (inB a) w w' := ⟨hg.os,hg.tape,hg.output,hg.size,fun k hk hn => hg.block k hk fun e => hn (by
    cases a with
    | none => simp [Value.ownBlock] at e
    | some ad => simp [Value.ownBlock] at e; exact ⟨ad,rfl,e.symm⟩)⟩
  rcases ho.2 with ⟨rfl,h0⟩ | ⟨g,cap,cur,rfl,h2,h3,h4,h5,h6,h7⟩
  · refine ⟨none,0,0,w',hr,by omega,?_,hfr,fun k ⟨ad,e,_⟩ => by cases e⟩
    rw [h0] at ho
    exact ho
  · refine ⟨_,_,_,w',hr,rfl,ho,hfr,fun k ⟨ad,e,hk⟩ => ?_⟩
    cases e
    simp only at hk
    subst hk
    by_cases hlt : g < w.heap.size
    · refine .inl ?_
      have hl' : news.length = m * i.size := by rw [E.hsize]; exact hl
      rcases h.cases with ⟨rfl,rfl,rfl⟩ | ⟨g',cur',rfl,k2,k3,k4,k5,k6,k7⟩
      · exfalso
        by_cases hm : m = 0
        · have := hnil.2 ⟨rfl,hm⟩
          cases this
        · have hr2 := run_append_nil (P := P) w t ty e i z E.ht E.hi E.hz b m d news hl' (fun j u hj => hnews.at hj) (by omega) (by omega) (by rw [E.hby]; simp at hb; omega)
          rw [hr] at hr2
          simp only [Result.ok.injEq,Value.slice.injEq,Option.some.injEq,Addr.mk.injEq] at hr2
          omega
      · refine ⟨_,rfl,?_⟩
        by_cases hroom : l + m <= c
        · have hr2 := run_append_room (P := P) w t ty e i E.ht E.hi g' l c cur' k3 b m d news hl' (fun j u hj => hnews.at hj) h1 hroom (by rw [E.hsize,hl,k6,← Nat.add_mul]; exact Nat.mul_le_mul_right _ hroom)
          rw [hr] at hr2
          simp only [Result.ok.injEq,Value.slice.injEq,Option.some.injEq,Addr.mk.injEq] at hr2
          exact hr2.1.1.1.symm
        · have hr2 := run_append_grow (P := P) w t ty e i z E.ht E.hi E.hz ⟨g',0,none⟩ l c xs (by rw [E.hsize]; exact h.length) (fun j u hj => h.rd.at hj) b m d news hl' (fun j u hj => hnews.at hj) (by omega) (by omega) (growslice_fits (by omega) (by rw [E.hby]; exact hb))
          rw [hr] at hr2
          simp only [Result.ok.injEq,Value.slice.injEq,Option.some.injEq,Addr.mk.injEq] at hr2
          omega
    · exact .inr (by omega)
end Go.Sh
namespace Go.Sh
open Go
theorem Pres.alloc (w : World) (o : Obj) : Pres w (w.alloc o) :=
  ⟨by simp,fun a v h => by rw [← h]; exact World.cell?_of_block (alloc_old (World.block_lt_of_cell? w a h)),fun r es c h => alloc_blk h⟩
theorem push_own {P : Program} {w : World} {base : Nat} {t ty e : TypeId} {size bytes : Nat} {z : Value} {i : TypeInfo} (E : ElemT P t e size bytes z i) {a : Option Addr} {l c : Nat} {xs : List Value} (h : Own w base e size a l c xs)
    {news : Array Value} (hz : news.size = size) (h1 : ∀ u ∈ news.toList,u.oneCell' = true) (hn : l + 1 <= 281474976710656) (hb : (l + 1) * bytes <= 140737488355328) (hbase : base <= w.heap.size) :
    ∃ a' c' w',Sem.run P (Builtin.append_ #[t,t] ty #[.slice a l c,.slice (some (Addr.mk w.heap.size 0 none)) 1 1]) (w.alloc (.cells news e)) = .ok (.slice a' (l + 1) c') w' /\ Own w' base e size a' (l + 1) c' (xs ++ news.toList) /\ Fr (inB a) w w' /\ (∀ k,inB a' k -> inB a k \/ w.heap.size <= k) := by
  have hw : Fr (fun _ => False) w (w.alloc (.cells news e)) := (Fr.refl w).alloc _
  have h' : Own (w.alloc (.cells news e)) base e size a l c xs := h.fr hw fun _ _ h => h
  obtain ⟨a',l',c',w',hr,rfl,ho,hf,hi⟩ := append_own (ty := ty) E h' (b := Addr.mk w.heap.size 0 none) (m := 1) (d := 1) (news := news.toList) (by simp [hz])
    (fun j u hj => ⟨_,rfl,by rw [add_mk,cell_at (alloc_new w _)]; simpa using hj⟩) h1 hn hb (by simp; omega)
  refine ⟨a',c',w',hr,ho,(hw.mono (S' := inB a) fun i _ h => h.elim).trans hf fun i _ h => h,fun k hk => ?_⟩
  · rcases hi k hk with h | h
    · exact .inl h
    · simp at h; exact .inr (by omega)
section
variable {P : Program} {w : World} {base : Nat} {t ty e : TypeId} {size bytes : Nat} {z : Value} {i : TypeInfo} {a : Option Addr} {l c : Nat} {xs : List Value} {news : Array Value}
theorem push {K : Option Addr -> Nat -> Nat -> World -> Prop} (E : ElemT P t e size bytes z i) (h : Own w base e size a l c xs) (hz : news.size = size) (h1 : ∀ u ∈ news.toList,u.oneCell' = true) (hn : l + 1 <= 281474976710656) (hb : (l + 1) * bytes <= 140737488355328) (hbase : base <= w.heap.size)
    (hk : ∀ a' c' w',Own w' base e size a' (l + 1) c' (xs ++ news.toList) -> Fr (inB a) w w' -> (∀ k,inB a' k -> inB a k \/ w.heap.size <= k) -> K a' (l + 1) c' w') :
    ∃ a' l' c' w',Sem.run P (Builtin.append_ #[t,t] ty #[.slice a l c,.slice (some (Addr.mk w.heap.size 0 none)) 1 1]) (w.alloc (.cells news e)) = .ok (.slice a' l' c') w' /\ K a' l' c' w' := by
  obtain ⟨a',c',w',hr,h2,h3,h4⟩ := push_own (ty := ty) E h hz h1 hn hb hbase
  exact ⟨a',_,c',w',hr,hk a' c' w' h2 h3 h4⟩
theorem Own.put {K : World -> Prop} {ad : Addr} {j : Nat} {v : Value} (h : Own w base e size (some ad) l c xs) (hj : j < xs.length)
    (hk : ∀ w',Own w' base e size (some ad) l c (xs.set j v) -> Fr (inB (some ad)) w w' -> K w') : stc (ad.add j) v w K := by
  rcases h.cases with ⟨h0,_⟩ | ⟨g,cur,h0,h2,h3,h4,h5,h6,h7⟩
  · cases h0
  · cases h0
    rw [add_mk,Nat.zero_add]
    have hl := h.length
    have hjc : j < cur.size := by have := Nat.mul_le_mul_right size h4; omega
    refine stc_at h3 hjc (hk _ ⟨by rw [List.length_set]; exact h.1,.inr ⟨g,c,_,rfl,h2,sb_same h3,h4,h5,by simpa using h6,?_⟩⟩ ((Fr.refl w).sb fun _ => ⟨_,rfl,rfl⟩))
    rw [Array.toList_setIfInBounds,List.take_set,h7]
theorem Own.cut {n : Nat} (h : Own w base e size a l c xs) (hn : n <= l) : Own w base e size a n c (xs.take (n * size)) := by
  have hl := h.length
  have hm := Nat.mul_le_mul_right size hn
  refine ⟨by rw [List.length_take]; omega,?_⟩
  rcases h.cases with ⟨rfl,rfl,rfl⟩ | ⟨g,cur,rfl,h2,h3,h4,h5,h6,h7⟩
  · have : n = 0 := by omega
    subst this
    exact .inl ⟨rfl,rfl⟩
  · exact .inr ⟨g,c,cur,rfl,h2,h3,by omega,h5,h6,by rw [← h7,List.take_take,Nat.min_eq_left hm]⟩
theorem Own.le (h : Own w base e size a l c xs) : l <= c := by
  rcases h.cases with ⟨rfl,rfl,rfl⟩ | ⟨g,cur,rfl,h2,h3,h4,h5,h6,h7⟩
  · exact Nat.le_refl _
  · exact h4
theorem slS_hi {sz : Nat} {k : IntKind} {n : Nat} {K : Option Addr -> Nat -> Nat -> Prop} (hn : n <= c) (hk : K a n c) : slS sz a l c none (some (.int k (n : Int))) K := by
  have : (if c = 0 then a else a.map (·.add (0 * sz))) = a := by
    split
    · rfl
    · cases a
      · rfl
      · simp [Addr.add]
  unfold slS bnd
  refine ⟨⟨by omega,by omega⟩,?_⟩
  show K (if c = 0 then a else a.map (·.add (0 * sz))) ((n : Int).toNat - 0) (c - 0)
  rw [this]
  simpa using hk
end
end Go.Sh
namespace Go.Sh
open Go
section
variable {P : Program} {w : World} {d : Nat} {xs ys : Array Value}
end
theorem make_own {P : Program} {w : World} {base : Nat} {t e : TypeId} {size bytes : Nat} {z : Value} {i : TypeInfo} (E : ElemT P t e size bytes z i) {K : Option Addr -> Nat -> Nat -> World -> Prop} {kl kc : IntKind} {n : Nat} (hn : n * size <= 16777216) (hb : bytes * n <= 281474976710656) (hm : n <= 281474976710656) (hbase : base <= w.heap.size)
    (hk : ∀ w',Own w' base e size (some ⟨w.heap.size,0,none⟩) n n (madeCells z.cells (n * size)).toList -> Fr (fun _ => False) w w' -> K (some ⟨w.heap.size,0,none⟩) n n w') :
    ∃ a l c w',Sem.run P (Instr.makeSlice t (.int kl (n : Int)) (.int kc (n : Int))) w = .ok (.slice a l c) w' /\ K a l c w' := by
  obtain ⟨w',hr,ho,hg⟩ := run_makeSlice_full (P := P) w base t e i z size E.ht E.hi E.hz E.hsize kl kc n hn (by rw [E.hby]; exact hb) (by unfold maxLen; omega) hbase
  exact ⟨_,_,_,w',hr,hk w' ho ⟨hg.os,hg.tape,hg.output,hg.size,fun k hk _ => hg.block k hk (by simp)⟩⟩
end Go.Sh
namespace Go.Sh
open Go
theorem setRow_sb {w : World} {g : Nat} {old cs : Array Value} {t : TypeId} {fr : Nat × Nat} (h : w.heap[g]? = some (.cells old t fr)) : w.setRow g cs = sb w g (.cells cs t fr) := by
  unfold World.setRow sb
  congr 1
  apply Array.ext_getElem?
  intro i
  rw [Array.getElem?_modify]
  by_cases hi : g = i
  · subst hi
    have := lt_of_blk h
    rw [if_pos rfl,h]
    simp [this]
  · rw [if_neg hi,Array.getElem?_setIfInBounds_ne hi]
section
variable {P : Program} {w : World} {base : Nat} {t ty e : TypeId} {size bytes : Nat} {z : Value} {i : TypeInfo} {ad b : Addr} {l c m d : Nat} {xs news : List Value}
theorem Own.tail (h : Own w base e size (some ad) l c xs) {j : Nat} (hj : j <= l) : ∃ b,(if c = j then some ad else (some ad).map (·.add (j * size))) = some b /\ Rd w (some b) (xs.drop (j * size)) := by
  by_cases hc : c = j
  · rw [if_pos hc]
    refine ⟨ad,rfl,?_⟩
    have hl := h.length
    have hle := h.le
    have : xs.drop (j * size) = [] := List.drop_eq_nil_of_le (by rw [hl]; exact Nat.mul_le_mul_right _ (by omega))
    rw [this]
    exact Rd.nil _ _
  · rw [if_neg hc]
    refine ⟨_,rfl,fun k u hk => ⟨_,rfl,?_⟩⟩
    rw [List.getElem?_drop] at hk
    rw [add_add]
    exact h.rd.at hk
end
end Go.Sh
