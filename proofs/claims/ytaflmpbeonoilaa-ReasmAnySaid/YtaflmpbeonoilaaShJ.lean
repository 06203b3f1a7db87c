/-
  Maps from integers to integers, as functions: look-up, store, delete.
-/
import Derived.Test.YtaflmpbeonoilaaShH
import Derived.MapKept
import Derived.Laws.AppendOwn
namespace Go.Sh
open Go

def mval : List (Int × Int) → Int → Option Int
  | [], _ => none
  | p :: r, k => if k = p.1 then some p.2 else mval r k
def MRep (kk kv : IntKind) (es : List MapEntry) (l : List (Int × Int)) : Prop :=
  es.map (fun e => (e.key, e.val)) = l.map (fun p => (Value.int kk p.1, Value.int kv p.2))
def MapI (kk kv : IntKind) (w : World) (m : Nat) (f : Int → Option Int) : Prop :=
  ∃ es c l, w.heap[m]? = some (.map es c) ∧ MRep kk kv es.toList l ∧ (l.map Prod.fst).Nodup ∧ (∀ k, mval l k = f k) ∧ MapKept.Stamped es c
def updF (f : Int → Option Int) (k : Int) (v : Option Int) : Int → Option Int := fun j => if j = k then v else f j

theorem MapI.lt {kk kv : IntKind} {w : World} {m : Nat} {f : Int → Option Int} (h : MapI kk kv w m f) : m < w.heap.size := by
  obtain ⟨es, c, l, h, _⟩ := h
  exact lt_of_blk h
theorem MapI.of_blk {kk kv : IntKind} {w w' : World} {m : Nat} {f : Int → Option Int} (h : MapI kk kv w m f) (e : w'.heap[m]? = w.heap[m]?) : MapI kk kv w' m f := by
  obtain ⟨es, c, l, h1, h⟩ := h
  exact ⟨es, c, l, by rw [e]; exact h1, h⟩
theorem MapI.fr {kk kv : IntKind} {w w' : World} {m : Nat} {f : Int → Option Int} {S : Nat → Prop} (h : MapI kk kv w m f) (hf : Fr S w w') (hn : ¬ S m) : MapI kk kv w' m f := h.of_blk (hf.block m h.lt hn)
theorem MapI.ne_cells {kk kv : IntKind} {w : World} {m b : Nat} {f : Int → Option Int} {cs : Array Value} {T : TypeId} {z : Nat × Nat} (h : MapI kk kv w m f) (hb : w.heap[b]? = some (.cells cs T z)) : m ≠ b := by
  obtain ⟨es, c, l, h1, h⟩ := h
  intro e
  subst e
  rw [h1] at hb
  cases hb
theorem MapI.new (kk kv : IntKind) (w : World) : MapI kk kv (w.alloc (.map #[] 0)) w.heap.size fun _ => none :=
  ⟨#[], 0, [], alloc_new w _, rfl, by simp, fun _ => rfl, MapKept.stamped_empty 0⟩

theorem findNow_int {kk kv kd : IntKind} {k : Int} : ∀ {es : List MapEntry} {l : List (Int × Int)} (i : Nat), MRep kk kv es l →
    (mval l k = none ∧ Instr.findNow (.int kd) (.int kk k) es i = some none) ∨
    (∃ j v, mval l k = some v ∧ Instr.findNow (.int kd) (.int kk k) es i = some (some (i + j, .int kv v)) ∧ l[j]? = some (k, v))
  | [], [], i, _ => .inl ⟨rfl, rfl⟩
  | [], _ :: _, _, h => by simp [MRep] at h
  | _ :: _, [], _, h => by simp [MRep] at h
  | e :: es, p :: l, i, h => by
    simp only [MRep, List.map_cons, List.cons.injEq, Prod.mk.injEq] at h
    obtain ⟨⟨h1, h2⟩, h3⟩ := h
    unfold mval Instr.findNow
    simp only [h1, Instr.sameNow, if_true]
    by_cases hk : k = p.1
    · refine .inr ⟨0, p.2, by rw [if_pos hk], ?_, by rw [hk]; rfl⟩
      have : (k == p.1) = true := by simp [hk]
      rw [this, h2]
      rfl
    · rw [if_neg hk]
      have : (k == p.1) = false := by simp [hk]
      rw [this]
      rcases findNow_int (k := k) (kd := kd) (i + 1) h3 with ⟨h, h'⟩ | ⟨j, v, h, h', hj⟩
      · exact .inl ⟨h, h'⟩
      · exact .inr ⟨j + 1, v, h, by rw [h', Nat.add_assoc, Nat.add_comm 1 j], hj⟩

section
variable {P : Program} {w : World} {T kt et : TypeId} {kk kv kd : IntKind} {m : Nat} {f : Int → Option Int} {k v : Int}
theorem look_int (hk : P.underlying kt = some (.int kd)) (hz : (P.info? et).bind (·.zero) = some (.int kv 0)) (hm : MapI kk kv w m f) :
    lookF P kt et (.map (some m)) (.int kk k) false w = some (.int kv ((f k).getD 0)) := by
  obtain ⟨es, c, l, h1, h2, _, h3, _⟩ := hm
  unfold lookF
  simp only [h1, hk, hz]
  rcases findNow_int (k := k) (kd := kd) 0 h2 with ⟨h, h'⟩ | ⟨j, v, h, h', _⟩
  · rw [h', ← h3 k, h]; rfl
  · rw [h', ← h3 k, h]; rfl
theorem look_int_ok (hk : P.underlying kt = some (.int kd)) (hz : (P.info? et).bind (·.zero) = some (.int kv 0)) (hm : MapI kk kv w m f) :
    lookF P kt et (.map (some m)) (.int kk k) true w = some (.tuple #[.int kv ((f k).getD 0), .bool (f k).isSome]) := by
  obtain ⟨es, c, l, h1, h2, _, h3, _⟩ := hm
  unfold lookF
  simp only [h1, hk, hz]
  rcases findNow_int (k := k) (kd := kd) 0 h2 with ⟨h, h'⟩ | ⟨j, v, h, h', _⟩
  · rw [h', ← h3 k, h]; rfl
  · rw [h', ← h3 k, h]; rfl
theorem look_nil (hk : P.underlying kt = some (.int kd)) (hz : (P.info? et).bind (·.zero) = some (.int kv 0)) : lookF P kt et (.map none) (.int kk k) false w = some (.int kv 0) := by
  unfold lookF
  simp only [hk, hz]
  rfl
theorem run_getObj {o : Obj} (h : w.heap[m]? = some o) (hc : ∀ c e z, o ≠ .cells c e z) : (getObj m).run P w = .ok o w := by
  unfold getObj
  cases o <;> first | exact absurd rfl (hc _ _ _) | simp [Sem.run, h]
theorem run_setObj {o o' : Obj} (h : w.heap[m]? = some o') (hc : ∀ c e z, o' ≠ .cells c e z) : (setObj m o).run P w = .ok () (sb w m o) := by
  unfold setObj
  cases o' <;> first | exact absurd rfl (hc _ _ _) | simp [Sem.run, h, sb]
theorem run_findKey_int (hk : P.underlying kt = some (.int kd)) {es : List MapEntry} {r : Option (Nat × Value)} (h : Instr.findNow (.int kd) (.int kk k) es 0 = some r) : (Instr.findKey kt (.int kk k) es).run P w = .ok r w := by
  unfold Instr.findKey
  simp only [Sem.run_bind, run_under hk, Result.andThen_ok, h, Sem.run_pure]
theorem checkKey_int (hk : P.underlying kt = some (.int kd)) (g : Bool) (n : Nat) (x : Value) : (Instr.checkKey g (n + 1) kt x).run P w = .ok () w :=
  run_checkKey (by unfold isIntT; rw [hk]; rfl) g n x
theorem mval_set {l : List (Int × Int)} {j : Nat} {u : Int} (hj : l[j]? = some (k, u)) (hn : (l.map Prod.fst).Nodup) (i : Int) : mval (l.set j (k, v)) i = if i = k then some v else mval l i := by
  induction l generalizing j with
  | nil => simp at hj
  | cons p l ih =>
    cases j with
    | zero =>
      simp only [List.getElem?_cons_zero, Option.some.injEq] at hj
      subst hj
      simp only [List.set_cons_zero, mval]
      by_cases hi : i = k
      · simp [hi]
      · simp [hi]
    | succ j =>
      simp only [List.getElem?_cons_succ] at hj
      simp only [List.map_cons, List.nodup_cons] at hn
      simp only [List.set_cons_succ, mval]
      by_cases hi : i = p.1
      · have hne : i ≠ k := by
          intro e
          refine hn.1 ?_
          rw [← hi, e]
          exact List.mem_map.2 ⟨(k, u), List.mem_of_getElem? hj, rfl⟩
        rw [if_pos hi, if_pos hi, if_neg hne]
      · rw [if_neg hi, if_neg hi]
        exact ih hj hn.2
theorem mval_snoc {l : List (Int × Int)} (h : mval l k = none) (i : Int) : mval (l ++ [(k, v)]) i = if i = k then some v else mval l i := by
  induction l with
  | nil => simp [mval]
  | cons p l ih =>
    simp only [List.cons_append, mval] at h ⊢
    by_cases hk : k = p.1
    · rw [if_pos hk] at h; cases h
    · rw [if_neg hk] at h
      by_cases hi : i = p.1
      · have hne : i ≠ k := by intro e; exact hk (by rw [← e, hi])
        rw [if_pos hi, if_pos hi, if_neg hne]
      · rw [if_neg hi, if_neg hi]; exact ih h
theorem mval_mem {l : List (Int × Int)} (h : k ∈ l.map Prod.fst) : ∃ u, mval l k = some u := by
  induction l with
  | nil => simp at h
  | cons p l ih =>
    simp only [mval]
    by_cases hk : k = p.1
    · exact ⟨p.2, by rw [if_pos hk]⟩
    · rw [if_neg hk]
      simp only [List.map_cons, List.mem_cons] at h
      exact ih (h.resolve_left hk)
theorem mval_erase {l : List (Int × Int)} {j : Nat} {u : Int} (hj : l[j]? = some (k, u)) (hn : (l.map Prod.fst).Nodup) (i : Int) : mval (l.eraseIdx j) i = if i = k then none else mval l i := by
  induction l generalizing j with
  | nil => simp at hj
  | cons p l ih =>
    simp only [List.map_cons, List.nodup_cons] at hn
    cases j with
    | zero =>
      simp only [List.getElem?_cons_zero, Option.some.injEq] at hj
      subst hj
      simp only [List.eraseIdx_zero, List.tail_cons, mval]
      by_cases hi : i = k
      · subst hi
        rw [if_pos rfl]
        cases hm : mval l i with
        | none => rfl
        | some u' =>
          exfalso
          have : ∀ l : List (Int × Int), mval l i = some u' → i ∈ l.map Prod.fst := by
            intro l
            induction l with
            | nil => intro h; cases h
            | cons q l ih =>
              intro h
              simp only [mval] at h
              by_cases hq : i = q.1
              · simp [hq]
              · rw [if_neg hq] at h; simp only [List.map_cons, List.mem_cons]; exact .inr (ih h)
          exact hn.1 (this l hm)
      · simp [hi]
    | succ j =>
      simp only [List.getElem?_cons_succ] at hj
      simp only [List.eraseIdx_cons_succ, mval]
      by_cases hi : i = p.1
      · have hne : i ≠ k := by
          intro e
          refine hn.1 ?_
          rw [← hi, e]
          exact List.mem_map.2 ⟨(k, u), List.mem_of_getElem? hj, rfl⟩
        rw [if_pos hi, if_pos hi, if_neg hne]
      · rw [if_neg hi, if_neg hi]
        exact ih hj hn.2
theorem map_modify {es : Array MapEntry} {j : Nat} {g : MapEntry → MapEntry} : (es.modify j g).toList = es.toList.modify j g := by simp
theorem rep_modify {j : Nat} : ∀ {es : List MapEntry} {l : List (Int × Int)} {u : Int}, MRep kk kv es l → l[j]? = some (k, u) → MRep kk kv (es.modify j fun e => { e with key := .int kk k, val := .int kv v }) (l.set j (k, v)) := by
  intro es l u h hj
  unfold MRep at h ⊢
  apply List.ext_getElem?
  intro i
  have hi := congrArg (·[i]?) h
  simp only [List.getElem?_map] at hi ⊢
  rw [List.getElem?_modify, List.getElem?_set]
  by_cases hij : j = i
  · subst hij
    have hlt := (List.getElem?_eq_some_iff.1 hj).1
    rw [hj] at hi
    simp only [if_true, hlt]
    cases he : es[j]? with
    | none => rw [he] at hi; cases hi
    | some e => simp
  · simp only [hij, if_false]
    cases he : es[i]? with
    | none => rw [he] at hi; simpa using hi
    | some e => rw [he] at hi; simpa using hi
theorem map_erase {α β : Type} (g : α → β) : ∀ (l : List α) (j : Nat), (l.eraseIdx j).map g = (l.map g).eraseIdx j
  | [], _ => rfl
  | _ :: _, 0 => rfl
  | a :: l, j + 1 => by simp only [List.eraseIdx_cons_succ, List.map_cons, map_erase g l j]
theorem rep_erase {j : Nat} {es : List MapEntry} {l : List (Int × Int)} (h : MRep kk kv es l) : MRep kk kv (es.eraseIdx j) (l.eraseIdx j) := by
  unfold MRep at h ⊢
  rw [map_erase, map_erase, h]
theorem rep_key {es : List MapEntry} {l : List (Int × Int)} {j : Nat} {e : MapEntry} (h : MRep kk kv es l) (he : es[j]? = some e) : ∃ q, l[j]? = some q ∧ e.key = .int kk q.1 := by
  have hi := congrArg (·[j]?) h
  simp only [List.getElem?_map, he, Option.map_some] at hi
  cases hq : l[j]? with
  | none => rw [hq] at hi; cases hi
  | some q =>
    rw [hq] at hi
    simp only [Option.map_some, Option.some.injEq, Prod.mk.injEq] at hi
    exact ⟨q, rfl, hi.1⟩
theorem store_int (hT : P.underlying T = some (.map kt et)) (hk : P.underlying kt = some (.int kd)) (hm : MapI kk kv w m f) :
    ∃ o, (Instr.mapUpdate T (.map (some m)) (.int kk k) (.int kv v)).run P w = .ok () (sb w m o) ∧ MapI kk kv (sb w m o) m (updF f k (some v)) := by
  obtain ⟨es, c, l, h1, h2, hnd, h3, hstp⟩ := hm
  have hck : (Instr.checkKey false 10000 kt (.int kk k)).run P w = .ok () w := checkKey_int hk false 9999 _
  have hg : (getObj m).run P w = .ok (.map es c) w := run_getObj h1 (fun _ _ _ e => by cases e)
  unfold Instr.mapUpdate
  simp only [Sem.run_bind, run_under hT, Result.andThen_ok, hg, hck]
  rcases findNow_int (k := k) (kd := kd) 0 h2 with ⟨h, h'⟩ | ⟨j, u, h, h', hj⟩
  · rw [run_findKey_int hk h']
    simp only [Result.andThen_ok]
    refine ⟨_, run_setObj h1 (fun _ _ _ e => by cases e), _, _, l ++ [(k, v)], sb_same h1, ?_, ?_, fun i => ?_, MapKept.stamped_push hstp fun x hx e => ?_⟩
    · unfold MRep at h2 ⊢; simp [h2]
    · rw [List.map_append, List.nodup_append]
      refine ⟨hnd, by simp, fun a ha b hb e => ?_⟩
      simp at hb
      subst hb
      subst e
      obtain ⟨u, hu⟩ := mval_mem ha
      rw [h] at hu
      cases hu
    · rw [mval_snoc h, h3]; rfl
    · obtain ⟨j, hj⟩ := List.getElem?_of_mem hx
      obtain ⟨q, hq, e1⟩ := rep_key h2 hj
      rw [e1] at e
      injection e with _ e
      obtain ⟨u, hu⟩ := mval_mem (k := k) (List.mem_map.2 ⟨q, List.mem_of_getElem? hq, e⟩)
      rw [h] at hu
      cases hu
  · rw [run_findKey_int hk h']
    simp only [Result.andThen_ok, Nat.zero_add]
    have hkey : (((es[j]?).map (·.key)).getD (.int kk k)) = .int kk k := by
      have := congrArg (·[j]?) h2
      simp only [List.getElem?_map, hj, Option.map_some, Array.getElem?_toList] at this
      cases he : es[j]? with
      | none => rfl
      | some e =>
        rw [he] at this
        simp only [Option.map_some, Option.some.injEq, Prod.mk.injEq] at this
        simp [this.1]
    have hst : (Instr.keyThatStays (((es[j]?).map (·.key)).getD (.int kk k)) (.int kk k)).run P w = .ok (.int kk k) w := by
      rw [hkey]
      unfold Instr.keyThatStays
      have : Instr.sameBits 10000 (.int kk k) (.int kk k) = true := by
        have : ∀ n, Instr.sameBits n (.int kk k) (.int kk k) = true := fun n => by cases n <;> simp [Instr.sameBits]
        exact this 10000
      rw [if_pos this]
      rfl
    rw [Sem.run_bind, hst]
    simp only [Result.andThen_ok]
    refine ⟨_, run_setObj h1 (fun _ _ _ e => by cases e), _, _, l.set j (k, v), sb_same h1, ?_, ?_, fun i => ?_, MapKept.stamped_modify hstp _ _ (fun _ _ => rfl) fun e _ he => ?_⟩
    · rw [map_modify]; exact rep_modify h2 hj
    · have : (l.set j (k, v)).map Prod.fst = l.map Prod.fst := by
        rw [List.map_set]
        refine List.ext_getElem? fun i => ?_
        rw [List.getElem?_set]
        by_cases hij : j = i
        · subst hij
          obtain ⟨hlt, he⟩ := List.getElem?_eq_some_iff.1 hj
          simp [hlt, he]
        · simp [hij]
      rw [this]; exact hnd
    · rw [mval_set hj hnd, h3]; rfl
    · obtain ⟨q, hq, e1⟩ := rep_key h2 (by simpa using he)
      rw [hj] at hq
      cases hq
      exact e1.symm
theorem delete_int {ats : Array TypeId} {ty : TypeId} (ha : ats[0]? = some T) (hT : P.underlying T = some (.map kt et)) (hk : P.underlying kt = some (.int kd)) (hm : MapI kk kv w m f) :
    ∃ o, (Builtin.delete_ ats ty #[.map (some m), .int kk k]).run P w = .ok (.tuple #[]) (sb w m o) ∧ MapI kk kv (sb w m o) m (updF f k none) := by
  obtain ⟨es, c, l, h1, h2, hnd, h3, hstp⟩ := hm
  have hck : ∀ g, (Instr.checkKey g 10000 kt (.int kk k)).run P w = .ok () w := fun g => checkKey_int hk g 9999 _
  have hg : (getObj m).run P w = .ok (.map es c) w := run_getObj h1 (fun _ _ _ e => by cases e)
  unfold Builtin.delete_
  simp only [ha, List.getElem?_toArray, List.getElem?_cons_zero, List.getElem?_cons_succ, Sem.run_bind, run_under hT, Result.andThen_ok, hg, hck]
  rcases findNow_int (k := k) (kd := kd) 0 h2 with ⟨h, h'⟩ | ⟨j, u, h, h', hj⟩
  · rw [run_findKey_int hk h']
    simp only [Result.andThen_ok]
    rw [Sem.run_bind, run_setObj h1 (fun _ _ _ e => by cases e)]
    simp only [Result.andThen_ok, Sem.run_pure]
    refine ⟨_, rfl, _, _, l, sb_same h1, h2, hnd, fun i => ?_, hstp⟩
    rw [h3]
    unfold updF
    by_cases hi : i = k
    · rw [if_pos hi, hi, ← h3, h]
    · rw [if_neg hi]
  · rw [run_findKey_int hk h']
    simp only [Result.andThen_ok, Nat.zero_add]
    rw [Sem.run_bind, run_setObj h1 (fun _ _ _ e => by cases e)]
    simp only [Result.andThen_ok, Sem.run_pure]
    refine ⟨_, rfl, _, _, l.eraseIdx j, sb_same h1, ?_, ?_, fun i => ?_, MapKept.stamped_erase hstp j⟩
    · rw [Array.toList_eraseIdxIfInBounds]; exact rep_erase h2
    · rw [map_erase]; exact hnd.sublist (List.eraseIdx_sublist _ _)
    · rw [mval_erase hj hnd, h3]; rfl
end
end Go.Sh
namespace Go.Sh
open Go

theorem add_add (a : Addr) (i j : Nat) : (a.add i).add j = a.add (i + j) := by
  unfold Addr.add
  by_cases hi : i = 0
  · subst hi; simp
  · by_cases hj : j = 0
    · subst hj; simp
    · rw [if_neg hi, if_neg hj, if_neg (by omega)]; simp [Nat.add_assoc]
theorem add_block (a : Addr) (i : Nat) : (a.add i).block = a.block := by unfold Addr.add; split <;> rfl
/-- the cells of a slice, as far as the list goes -/
def Rd (w : World) (a : Option Addr) (xs : List Value) : Prop := ∀ j u, xs[j]? = some u → ∃ ad, a = some ad ∧ w.cell? (ad.add j) = some u
theorem Rd.nil (w : World) (a : Option Addr) : Rd w a [] := fun j u h => by simp at h
theorem Rd.at {w : World} {ad : Addr} {xs : List Value} (h : Rd w (some ad) xs) {j : Nat} {u : Value} (hj : xs[j]? = some u) : w.cell? (ad.add j) = some u := by
  obtain ⟨ad', e, h⟩ := h j u hj
  cases e
  exact h
theorem Rd.some {w : World} {a : Option Addr} {xs : List Value} (h : Rd w a xs) (hl : 0 < xs.length) : ∃ ad, a = some ad := by
  obtain ⟨ad, h, _⟩ := h 0 xs[0] (by simp [hl])
  exact ⟨ad, h⟩
theorem Rd.fr {w w' : World} {a : Option Addr} {xs : List Value} {S : Nat → Prop} (h : Rd w a xs) (hf : Fr S w w') (hn : ∀ ad, a = .some ad → ¬ S ad.block) : Rd w' a xs := by
  intro j u hj
  obtain ⟨ad, e, hc⟩ := h j u hj
  refine ⟨ad, e, ?_⟩
  rw [← hc]
  refine World.cell?_of_block (hf.block _ ?_ ?_)
  · exact World.block_lt_of_cell? w _ hc
  · rw [add_block]; exact hn ad e
theorem cell_fr {w w' : World} {a : Addr} {v : Value} {S : Nat → Prop} (h : w.cell? a = some v) (hf : Fr S w w') (hn : ¬ S a.block) : w'.cell? a = some v := by
  rw [← h]
  exact World.cell?_of_block (hf.block _ (World.block_lt_of_cell? w _ h) hn)
section
variable {w : World} {a : Addr}
theorem ldI_c {k : IntKind} {n : Int} {K : Int → Prop} (h : w.cell? a = some (.int k n)) (hk : K n) : ldI k a w K := ⟨n, h, hk⟩
theorem ldB_c {n : Bool} {K : Bool → Prop} (h : w.cell? a = some (.bool n)) (hk : K n) : ldB a w K := ⟨n, h, hk⟩
theorem ldS_c {n : ByteArray} {K : ByteArray → Prop} (h : w.cell? a = some (.string n)) (hk : K n) : ldS a w K := ⟨n, h, hk⟩
theorem ldP_c {n : Option Addr} {K : Option Addr → Prop} (h : w.cell? a = some (.pointer n)) (hk : K n) : ldP a w K := ⟨n, h, hk⟩
theorem ldM_c {n : Option Nat} {K : Option Nat → Prop} (h : w.cell? a = some (.map n)) (hk : K n) : ldM a w K := ⟨n, h, hk⟩
theorem ldV_c {n : Value} {K : Value → Prop} (h : w.cell? a = some n) (hk : K n) : ldV a w K := ⟨n, h, hk⟩
theorem ldC_c {b : Option Addr} {l c : Nat} {K : Option Addr → Nat → Nat → Prop} (h : w.cell? a = some (.slice b l c)) (hk : K b l c) : ldC a w K := ⟨b, l, c, h, hk⟩
end
theorem ixS_of {sz l : Nat} {ad : Addr} {i : Int} {K : Addr → Prop} (h0 : 0 ≤ i) (h1 : i < (l : Int)) (hk : K (ad.add (i.toNat * sz))) : ixS sz (some ad) l i K := ⟨⟨h0, h1⟩, hk⟩

/-- a slice of the call's own (blocks from 'base' on): its cells are xs -/
def Own (w : World) (base : Nat) (e : TypeId) (size : Nat) (a : Option Addr) (l c : Nat) (xs : List Value) : Prop := w.ownsRow base e size (.slice a l c) l xs
theorem Own.nil (w : World) (base : Nat) (e : TypeId) (size : Nat) : Own w base e size none 0 0 [] := World.ownsRow_nil w base e size
theorem Own.length {w : World} {base : Nat} {e : TypeId} {size : Nat} {a : Option Addr} {l c : Nat} {xs : List Value} (h : Own w base e size a l c xs) : xs.length = l * size := h.1
theorem Own.cases {w : World} {base : Nat} {e : TypeId} {size : Nat} {a : Option Addr} {l c : Nat} {xs : List Value} (h : Own w base e size a l c xs) :
    (a = none ∧ l = 0 ∧ c = 0) ∨ ∃ g cur, a = some ⟨g, 0, none⟩ ∧ base ≤ g ∧ w.heap[g]? = some (.cells cur e (0, 0)) ∧ l ≤ c ∧ c ≤ maxLen ∧ cur.size = c * size ∧ cur.toList.take (l * size) = xs := by
  rcases h.2 with ⟨h1, h2⟩ | ⟨g, cap, cur, h1, h2, h3, h4, h5, h6, h7⟩
  · cases h1; exact .inl ⟨rfl, rfl, rfl⟩
  · cases h1; exact .inr ⟨g, cur, rfl, h2, h3, h4, h5, h6, h7⟩
theorem Own.rd {w : World} {base : Nat} {e : TypeId} {size : Nat} {a : Option Addr} {l c : Nat} {xs : List Value} (h : Own w base e size a l c xs) : Rd w a xs := by
  intro j u hj
  rcases h.cases with ⟨rfl, rfl, rfl⟩ | ⟨g, cur, rfl, h2, h3, h4, h5, h6, h7⟩
  · have := h.length
    simp at this
    rw [this] at hj
    simp at hj
  · refine ⟨_, rfl, ?_⟩
    rw [add_mk, cell_at h3, Nat.zero_add]
    rw [← h7, List.getElem?_take] at hj
    split at hj
    · simpa using hj
    · cases hj
/-- the block of a slice -/
def inB (a : Option Addr) : Nat → Prop := fun k => ∃ ad, a = some ad ∧ ad.block = k
theorem Own.base_le {w : World} {base : Nat} {e : TypeId} {size : Nat} {a : Option Addr} {l c : Nat} {xs : List Value} (h : Own w base e size a l c xs) {k : Nat} (hk : inB a k) : base ≤ k ∧ k < w.heap.size := by
  obtain ⟨ad, ha, rfl⟩ := hk
  rcases h.cases with ⟨rfl, rfl, rfl⟩ | ⟨g, cur, rfl, h2, h3, _⟩
  · cases ha
  · cases ha; exact ⟨h2, lt_of_blk h3⟩
theorem Own.fr {w w' : World} {base : Nat} {e : TypeId} {size : Nat} {a : Option Addr} {l c : Nat} {xs : List Value} {S : Nat → Prop} (h : Own w base e size a l c xs) (hf : Fr S w w') (hn : ∀ k, inB a k → ¬ S k) : Own w' base e size a l c xs := by
  rcases h.cases with ⟨rfl, rfl, rfl⟩ | ⟨g, cur, rfl, h2, h3, h4, h5, h6, h7⟩
  · exact ⟨h.1, .inl ⟨rfl, rfl⟩⟩
  · exact ⟨h.1, .inr ⟨g, c, cur, rfl, h2, hf.blk h3 (hn g ⟨_, rfl, rfl⟩), h4, h5, h6, h7⟩⟩
theorem Own.mono {w : World} {base base' : Nat} {e : TypeId} {size : Nat} {a : Option Addr} {l c : Nat} {xs : List Value} (h : Own w base e size a l c xs) (hb : base' ≤ base) : Own w base' e size a l c xs := by
  rcases h.cases with ⟨rfl, rfl, rfl⟩ | ⟨g, cur, rfl, h2, h3, h4, h5, h6, h7⟩
  · exact ⟨h.1, .inl ⟨rfl, rfl⟩⟩
  · exact ⟨h.1, .inr ⟨g, c, cur, rfl, by omega, h3, h4, h5, h6, h7⟩⟩
/-- what an append of cells that can be read asks of the element's type -/
structure ElemT (P : Program) (t e : TypeId) (size bytes : Nat) (z : Value) (i : TypeInfo) : Prop where
  ht : P.underlying t = some (.slice e)
  hi : P.info? e = some i
  hz : i.zero = some z
  hsize : i.size = size
  hby : i.bytes = bytes
  hzs : z.cells.size = size
  pos : 0 < size
theorem append_own {P : Program} {w : World} {base : Nat} {t ty e : TypeId} {size bytes : Nat} {z : Value} {i : TypeInfo} (E : ElemT P t e size bytes z i) {a : Option Addr} {l c : Nat} {xs : List Value} (h : Own w base e size a l c xs)
    {b : Addr} {m d : Nat} {news : List Value} (hl : news.length = m * size) (hnews : Rd w (some b) news) (h1 : ∀ u ∈ news, u.oneCell' = true) (hn : l + m ≤ 281474976710656) (hb : (l + m) * bytes ≤ 140737488355328) (hbase : base ≤ w.heap.size) :
    ∃ a' l' c' w', Sem.run P (Builtin.append_ #[t, t] ty #[.slice a l c, .slice (some b) m d]) w = .ok (.slice a' l' c') w' ∧ l' = l + m ∧ Own w' base e size a' l' c' (xs ++ news) ∧ Fr (inB a) w w' ∧ (∀ k, inB a' k → inB a k ∨ w.heap.size ≤ k) := by
  obtain ⟨v', w', hr, ho, hg, hnil⟩ := run_append_own (P := P) w base t ty e i z size bytes E.ht E.hi E.hz E.hsize E.hby E.hzs E.pos _ l xs h b m d news hl (fun j u hj => hnews.at hj) h1 (by unfold maxLen; omega) hb hbase
  have hfr : Fr (inB a) w w' := ⟨hg.os, hg.tape, hg.output, hg.size, fun k hk hn => hg.block k hk fun e => hn (by
    cases a with
    | none => simp [Value.ownBlock] at e
    | some ad => simp [Value.ownBlock] at e; exact ⟨ad, rfl, e.symm⟩)⟩
  rcases ho.2 with ⟨rfl, h0⟩ | ⟨g, cap, cur, rfl, h2, h3, h4, h5, h6, h7⟩
  · refine ⟨none, 0, 0, w', hr, by omega, ?_, hfr, fun k ⟨ad, e, _⟩ => by cases e⟩
    rw [h0] at ho
    exact ho
  · refine ⟨_, _, _, w', hr, rfl, ho, hfr, fun k ⟨ad, e, hk⟩ => ?_⟩
    cases e
    simp only at hk
    subst hk
    by_cases hlt : g < w.heap.size
    · refine .inl ?_
      have hl' : news.length = m * i.size := by rw [E.hsize]; exact hl
      rcases h.cases with ⟨rfl, rfl, rfl⟩ | ⟨g', cur', rfl, k2, k3, k4, k5, k6, k7⟩
      · exfalso
        by_cases hm : m = 0
        · have := hnil.2 ⟨rfl, hm⟩
          cases this
        · have hr2 := run_append_nil (P := P) w t ty e i z E.ht E.hi E.hz b m d news hl' (fun j u hj => hnews.at hj) (by omega) (by omega) (by rw [E.hby]; simp at hb; omega)
          rw [hr] at hr2
          simp only [Result.ok.injEq, Value.slice.injEq, Option.some.injEq, Addr.mk.injEq] at hr2
          omega
      · refine ⟨_, rfl, ?_⟩
        by_cases hroom : l + m ≤ c
        · have hr2 := run_append_room (P := P) w t ty e i E.ht E.hi g' l c cur' k3 b m d news hl' (fun j u hj => hnews.at hj) h1 hroom (by rw [E.hsize, hl, k6, ← Nat.add_mul]; exact Nat.mul_le_mul_right _ hroom)
          rw [hr] at hr2
          simp only [Result.ok.injEq, Value.slice.injEq, Option.some.injEq, Addr.mk.injEq] at hr2
          exact hr2.1.1.1.symm
        · have hr2 := run_append_grow (P := P) w t ty e i z E.ht E.hi E.hz ⟨g', 0, none⟩ l c xs (by rw [E.hsize]; exact h.length) (fun j u hj => h.rd.at hj) b m d news hl' (fun j u hj => hnews.at hj) (by omega) (by omega) (growslice_fits (by omega) (by rw [E.hby]; exact hb))
          rw [hr] at hr2
          simp only [Result.ok.injEq, Value.slice.injEq, Option.some.injEq, Addr.mk.injEq] at hr2
          omega
    · exact .inr (by omega)
end Go.Sh
