/-
  Maps from integers to values of any kind, as functions: look-up, store, delete; owned.
-/
import Derived.Test.YtaflmpbeonoilaaShMr
namespace Go.Sh
open Go

def vval : List (Int × Value) → Int → Option Value
  | [], _ => none
  | p :: r, k => if k = p.1 then some p.2 else vval r k
def VRep (kk : IntKind) (es : List MapEntry) (l : List (Int × Value)) : Prop :=
  es.map (fun e => (e.key, e.val)) = l.map (fun p => (Value.int kk p.1, p.2))
def MapV (kk : IntKind) (w : World) (m : Nat) (f : Int → Option Value) : Prop :=
  ∃ es c l, w.heap[m]? = some (.map es c) ∧ VRep kk es.toList l ∧ (l.map Prod.fst).Nodup ∧ (∀ k, vval l k = f k) ∧ MapKept.Stamped es c
def updV (f : Int → Option Value) (k : Int) (v : Option Value) : Int → Option Value := fun j => if j = k then v else f j

theorem MapV.lt {kk : IntKind} {w : World} {m : Nat} {f : Int → Option Value} (h : MapV kk w m f) : m < w.heap.size := by
  obtain ⟨es, c, l, h, _⟩ := h
  exact lt_of_blk h
theorem MapV.of_blk {kk : IntKind} {w w' : World} {m : Nat} {f : Int → Option Value} (h : MapV kk w m f) (e : w'.heap[m]? = w.heap[m]?) : MapV kk w' m f := by
  obtain ⟨es, c, l, h1, h⟩ := h
  exact ⟨es, c, l, by rw [e]; exact h1, h⟩
theorem MapV.fr {kk : IntKind} {w w' : World} {m : Nat} {f : Int → Option Value} {S : Nat → Prop} (h : MapV kk w m f) (hf : Fr S w w') (hn : ¬ S m) : MapV kk w' m f := h.of_blk (hf.block m h.lt hn)
theorem MapV.ne_cells {kk : IntKind} {w : World} {m b : Nat} {f : Int → Option Value} {cs : Array Value} {T : TypeId} {z : Nat × Nat} (h : MapV kk w m f) (hb : w.heap[b]? = some (.cells cs T z)) : m ≠ b := by
  obtain ⟨es, c, l, h1, h⟩ := h
  intro e
  subst e
  rw [h1] at hb
  cases hb
theorem MapV.new (kk : IntKind) (w : World) : MapV kk (w.alloc (.map #[] 0)) w.heap.size fun _ => none :=
  ⟨#[], 0, [], alloc_new w _, rfl, by simp, fun _ => rfl, MapKept.stamped_empty 0⟩

theorem findNow_val {kk kd : IntKind} {k : Int} : ∀ {es : List MapEntry} {l : List (Int × Value)} (i : Nat), VRep kk es l →
    (vval l k = none ∧ Instr.findNow (.int kd) (.int kk k) es i = some none) ∨
    (∃ j v, vval l k = some v ∧ Instr.findNow (.int kd) (.int kk k) es i = some (some (i + j, v)) ∧ l[j]? = some (k, v))
  | [], [], i, _ => .inl ⟨rfl, rfl⟩
  | [], _ :: _, _, h => by simp [VRep] at h
  | _ :: _, [], _, h => by simp [VRep] at h
  | e :: es, p :: l, i, h => by
    simp only [VRep, List.map_cons, List.cons.injEq, Prod.mk.injEq] at h
    obtain ⟨⟨h1, h2⟩, h3⟩ := h
    unfold vval Instr.findNow
    simp only [h1, Instr.sameNow, if_true]
    by_cases hk : k = p.1
    · refine .inr ⟨0, p.2, by rw [if_pos hk], ?_, by rw [hk]; rfl⟩
      have : (k == p.1) = true := by simp [hk]
      rw [this, h2]
      rfl
    · rw [if_neg hk]
      have : (k == p.1) = false := by simp [hk]
      rw [this]
      rcases findNow_val (k := k) (kd := kd) (i + 1) h3 with ⟨h, h'⟩ | ⟨j, v, h, h', hj⟩
      · exact .inl ⟨h, h'⟩
      · exact .inr ⟨j + 1, v, h, by rw [h', Nat.add_assoc, Nat.add_comm 1 j], hj⟩

section
variable {P : Program} {w : World} {T kt et : TypeId} {kk kd : IntKind} {m : Nat} {f : Int → Option Value} {k : Int} {v z0 : Value}
theorem look_val (hk : P.underlying kt = some (.int kd)) (hz : (P.info? et).bind (·.zero) = some z0) (hm : MapV kk w m f) :
    lookF P kt et (.map (some m)) (.int kk k) false w = some ((f k).getD z0) := by
  obtain ⟨es, c, l, h1, h2, _, h3, _⟩ := hm
  unfold lookF
  simp only [h1, hk, hz]
  rcases findNow_val (k := k) (kd := kd) 0 h2 with ⟨h, h'⟩ | ⟨j, v, h, h', _⟩
  · rw [h', ← h3 k, h]; rfl
  · rw [h', ← h3 k, h]; rfl
theorem look_val_ok (hk : P.underlying kt = some (.int kd)) (hz : (P.info? et).bind (·.zero) = some z0) (hm : MapV kk w m f) :
    lookF P kt et (.map (some m)) (.int kk k) true w = some (.tuple #[((f k).getD z0), .bool (f k).isSome]) := by
  obtain ⟨es, c, l, h1, h2, _, h3, _⟩ := hm
  unfold lookF
  simp only [h1, hk, hz]
  rcases findNow_val (k := k) (kd := kd) 0 h2 with ⟨h, h'⟩ | ⟨j, v, h, h', _⟩
  · rw [h', ← h3 k, h]; rfl
  · rw [h', ← h3 k, h]; rfl
theorem lookv_nil (hk : P.underlying kt = some (.int kd)) (hz : (P.info? et).bind (·.zero) = some z0) : lookF P kt et (.map none) (.int kk k) false w = some z0 := by
  unfold lookF
  simp only [hk, hz]
  rfl
theorem vval_set {l : List (Int × Value)} {j : Nat} {u : Value} (hj : l[j]? = some (k, u)) (hn : (l.map Prod.fst).Nodup) (i : Int) : vval (l.set j (k, v)) i = if i = k then some v else vval l i := by
  induction l generalizing j with
  | nil => simp at hj
  | cons p l ih =>
    cases j with
    | zero =>
      simp only [List.getElem?_cons_zero, Option.some.injEq] at hj
      subst hj
      simp only [List.set_cons_zero, vval]
      by_cases hi : i = k
      · simp [hi]
      · simp [hi]
    | succ j =>
      simp only [List.getElem?_cons_succ] at hj
      simp only [List.map_cons, List.nodup_cons] at hn
      simp only [List.set_cons_succ, vval]
      by_cases hi : i = p.1
      · have hne : i ≠ k := by
          intro e
          refine hn.1 ?_
          rw [← hi, e]
          exact List.mem_map.2 ⟨(k, u), List.mem_of_getElem? hj, rfl⟩
        rw [if_pos hi, if_pos hi, if_neg hne]
      · rw [if_neg hi, if_neg hi]
        exact ih hj hn.2
theorem vval_snoc {l : List (Int × Value)} (h : vval l k = none) (i : Int) : vval (l ++ [(k, v)]) i = if i = k then some v else vval l i := by
  induction l with
  | nil => simp [vval]
  | cons p l ih =>
    simp only [List.cons_append, vval] at h ⊢
    by_cases hk : k = p.1
    · rw [if_pos hk] at h; cases h
    · rw [if_neg hk] at h
      by_cases hi : i = p.1
      · have hne : i ≠ k := by intro e; exact hk (by rw [← e, hi])
        rw [if_pos hi, if_pos hi, if_neg hne]
      · rw [if_neg hi, if_neg hi]; exact ih h
theorem vval_mem {l : List (Int × Value)} (h : k ∈ l.map Prod.fst) : ∃ u, vval l k = some u := by
  induction l with
  | nil => simp at h
  | cons p l ih =>
    simp only [vval]
    by_cases hk : k = p.1
    · exact ⟨p.2, by rw [if_pos hk]⟩
    · rw [if_neg hk]
      simp only [List.map_cons, List.mem_cons] at h
      exact ih (h.resolve_left hk)
theorem vval_erase {l : List (Int × Value)} {j : Nat} {u : Value} (hj : l[j]? = some (k, u)) (hn : (l.map Prod.fst).Nodup) (i : Int) : vval (l.eraseIdx j) i = if i = k then none else vval l i := by
  induction l generalizing j with
  | nil => simp at hj
  | cons p l ih =>
    simp only [List.map_cons, List.nodup_cons] at hn
    cases j with
    | zero =>
      simp only [List.getElem?_cons_zero, Option.some.injEq] at hj
      subst hj
      simp only [List.eraseIdx_zero, List.tail_cons, vval]
      by_cases hi : i = k
      · subst hi
        rw [if_pos rfl]
        cases hm : vval l i with
        | none => rfl
        | some u' =>
          exfalso
          have : ∀ l : List (Int × Value), vval l i = some u' → i ∈ l.map Prod.fst := by
            intro l
            induction l with
            | nil => intro h; cases h
            | cons q l ih =>
              intro h
              simp only [vval] at h
              by_cases hq : i = q.1
              · simp [hq]
              · rw [if_neg hq] at h; simp only [List.map_cons, List.mem_cons]; exact .inr (ih h)
          exact hn.1 (this l hm)
      · simp [hi]
    | succ j =>
      simp only [List.getElem?_cons_succ] at hj
      simp only [List.eraseIdx_cons_succ, vval]
      by_cases hi : i = p.1
      · have hne : i ≠ k := by
          intro e
          refine hn.1 ?_
          rw [← hi, e]
          exact List.mem_map.2 ⟨(k, u), List.mem_of_getElem? hj, rfl⟩
        rw [if_pos hi, if_pos hi, if_neg hne]
      · rw [if_neg hi, if_neg hi]
        exact ih hj hn.2
theorem vmap_modify {es : Array MapEntry} {j : Nat} {g : MapEntry → MapEntry} : (es.modify j g).toList = es.toList.modify j g := by simp
theorem vrep_modify {j : Nat} : ∀ {es : List MapEntry} {l : List (Int × Value)} {u : Value}, VRep kk es l → l[j]? = some (k, u) → VRep kk (es.modify j fun e => { e with key := .int kk k, val := v }) (l.set j (k, v)) := by
  intro es l u h hj
  unfold VRep at h ⊢
  apply List.ext_getElem?
  intro i
  have hi := congrArg (·[i]?) h
  simp only [List.getElem?_map] at hi ⊢
  rw [List.getElem?_modify, List.getElem?_set]
  by_cases hij : j = i
  · subst hij
    have hlt := (List.getElem?_eq_some_iff.1 hj).1
    rw [hj] at hi
    simp only [if_true, hlt]
    cases he : es[j]? with
    | none => rw [he] at hi; cases hi
    | some e => simp
  · simp only [hij, if_false]
    cases he : es[i]? with
    | none => rw [he] at hi; simpa using hi
    | some e => rw [he] at hi; simpa using hi
theorem vmap_erase {α β : Type} (g : α → β) : ∀ (l : List α) (j : Nat), (l.eraseIdx j).map g = (l.map g).eraseIdx j
  | [], _ => rfl
  | _ :: _, 0 => rfl
  | a :: l, j + 1 => by simp only [List.eraseIdx_cons_succ, List.map_cons, vmap_erase g l j]
theorem vrep_erase {j : Nat} {es : List MapEntry} {l : List (Int × Value)} (h : VRep kk es l) : VRep kk (es.eraseIdx j) (l.eraseIdx j) := by
  unfold VRep at h ⊢
  rw [vmap_erase, vmap_erase, h]
theorem vrep_key {es : List MapEntry} {l : List (Int × Value)} {j : Nat} {e : MapEntry} (h : VRep kk es l) (he : es[j]? = some e) : ∃ q, l[j]? = some q ∧ e.key = .int kk q.1 := by
  have hi := congrArg (·[j]?) h
  simp only [List.getElem?_map, he, Option.map_some] at hi
  cases hq : l[j]? with
  | none => rw [hq] at hi; cases hi
  | some q =>
    rw [hq] at hi
    simp only [Option.map_some, Option.some.injEq, Prod.mk.injEq] at hi
    exact ⟨q, rfl, hi.1⟩
theorem store_val (hT : P.underlying T = some (.map kt et)) (hk : P.underlying kt = some (.int kd)) (hm : MapV kk w m f) :
    ∃ o, (Instr.mapUpdate T (.map (some m)) (.int kk k) v).run P w = .ok () (sb w m o) ∧ MapV kk (sb w m o) m (updV f k (some v)) := by
  obtain ⟨es, c, l, h1, h2, hnd, h3, hstp⟩ := hm
  have hck : (Instr.checkKey false 10000 kt (.int kk k)).run P w = .ok () w := checkKey_int hk false 9999 _
  have hg : (getObj m).run P w = .ok (.map es c) w := run_getObj h1 (fun _ _ _ e => by cases e)
  unfold Instr.mapUpdate
  simp only [Sem.run_bind, run_under hT, Result.andThen_ok, hg, hck]
  rcases findNow_val (k := k) (kd := kd) 0 h2 with ⟨h, h'⟩ | ⟨j, u, h, h', hj⟩
  · rw [run_findKey_int hk h']
    simp only [Result.andThen_ok]
    refine ⟨_, run_setObj h1 (fun _ _ _ e => by cases e), _, _, l ++ [(k, v)], sb_same h1, ?_, ?_, fun i => ?_, MapKept.stamped_push hstp fun x hx e => ?_⟩
    · unfold VRep at h2 ⊢; simp [h2]
    · rw [List.map_append, List.nodup_append]
      refine ⟨hnd, by simp, fun a ha b hb e => ?_⟩
      simp at hb
      subst hb
      subst e
      obtain ⟨u, hu⟩ := vval_mem ha
      rw [h] at hu
      cases hu
    · rw [vval_snoc h, h3]; rfl
    · obtain ⟨j, hj⟩ := List.getElem?_of_mem hx
      obtain ⟨q, hq, e1⟩ := vrep_key h2 hj
      rw [e1] at e
      injection e with _ e
      obtain ⟨u, hu⟩ := vval_mem (k := k) (List.mem_map.2 ⟨q, List.mem_of_getElem? hq, e⟩)
      rw [h] at hu
      cases hu
  · rw [run_findKey_int hk h']
    simp only [Result.andThen_ok, Nat.zero_add]
    have hkey : (((es[j]?).map (·.key)).getD (.int kk k)) = .int kk k := by
      have := congrArg (·[j]?) h2
      simp only [List.getElem?_map, hj, Option.map_some, Array.getElem?_toList] at this
      cases he : es[j]? with
      | none => rfl
      | some e =>
        rw [he] at this
        simp only [Option.map_some, Option.some.injEq, Prod.mk.injEq] at this
        simp [this.1]
    have hst : (Instr.keyThatStays (((es[j]?).map (·.key)).getD (.int kk k)) (.int kk k)).run P w = .ok (.int kk k) w := by
      rw [hkey]
      unfold Instr.keyThatStays
      have : Instr.sameBits 10000 (.int kk k) (.int kk k) = true := by
        have : ∀ n, Instr.sameBits n (.int kk k) (.int kk k) = true := fun n => by cases n <;> simp [Instr.sameBits]
        exact this 10000
      rw [if_pos this]
      rfl
    rw [Sem.run_bind, hst]
    simp only [Result.andThen_ok]
    refine ⟨_, run_setObj h1 (fun _ _ _ e => by cases e), _, _, l.set j (k, v), sb_same h1, ?_, ?_, fun i => ?_, MapKept.stamped_modify hstp _ _ (fun _ _ => rfl) fun e _ he => ?_⟩
    · rw [vmap_modify]; exact vrep_modify h2 hj
    · have : (l.set j (k, v)).map Prod.fst = l.map Prod.fst := by
        rw [List.map_set]
        refine List.ext_getElem? fun i => ?_
        rw [List.getElem?_set]
        by_cases hij : j = i
        · subst hij
          obtain ⟨hlt, he⟩ := List.getElem?_eq_some_iff.1 hj
          simp [hlt, he]
        · simp [hij]
      rw [this]; exact hnd
    · rw [vval_set hj hnd, h3]; rfl
    · obtain ⟨q, hq, e1⟩ := vrep_key h2 (by simpa using he)
      rw [hj] at hq
      cases hq
      exact e1.symm
theorem delete_val {ats : Array TypeId} {ty : TypeId} (ha : ats[0]? = some T) (hT : P.underlying T = some (.map kt et)) (hk : P.underlying kt = some (.int kd)) (hm : MapV kk w m f) :
    ∃ o, (Builtin.delete_ ats ty #[.map (some m), .int kk k]).run P w = .ok (.tuple #[]) (sb w m o) ∧ MapV kk (sb w m o) m (updV f k none) := by
  obtain ⟨es, c, l, h1, h2, hnd, h3, hstp⟩ := hm
  have hck : ∀ g, (Instr.checkKey g 10000 kt (.int kk k)).run P w = .ok () w := fun g => checkKey_int hk g 9999 _
  have hg : (getObj m).run P w = .ok (.map es c) w := run_getObj h1 (fun _ _ _ e => by cases e)
  unfold Builtin.delete_
  simp only [ha, List.getElem?_toArray, List.getElem?_cons_zero, List.getElem?_cons_succ, Sem.run_bind, run_under hT, Result.andThen_ok, hg, hck]
  rcases findNow_val (k := k) (kd := kd) 0 h2 with ⟨h, h'⟩ | ⟨j, u, h, h', hj⟩
  · rw [run_findKey_int hk h']
    simp only [Result.andThen_ok]
    rw [Sem.run_bind, run_setObj h1 (fun _ _ _ e => by cases e)]
    simp only [Result.andThen_ok, Sem.run_pure]
    refine ⟨_, rfl, _, _, l, sb_same h1, h2, hnd, fun i => ?_, hstp⟩
    rw [h3]
    unfold updV
    by_cases hi : i = k
    · rw [if_pos hi, hi, ← h3, h]
    · rw [if_neg hi]
  · rw [run_findKey_int hk h']
    simp only [Result.andThen_ok, Nat.zero_add]
    rw [Sem.run_bind, run_setObj h1 (fun _ _ _ e => by cases e)]
    simp only [Result.andThen_ok, Sem.run_pure]
    refine ⟨_, rfl, _, _, l.eraseIdx j, sb_same h1, ?_, ?_, fun i => ?_, MapKept.stamped_erase hstp j⟩
    · rw [Array.toList_eraseIdxIfInBounds]; exact vrep_erase h2
    · rw [vmap_erase]; exact hnd.sublist (List.eraseIdx_sublist _ _)
    · rw [vval_erase hj hnd, h3]; rfl
end
/-! owned -/
section
variable {W w : World} {L : List HP} {kk kd : IntKind} {m it since c0 c : Nat} {f : Int → Option Value} {P : Program} {T kt et ty : TypeId} {k : Int} {es : Array MapEntry}
def mapV (kk : IntKind) (m : Nat) (f : Int → Option Value) : HP := on [m] fun w => MapV kk w m f
theorem mapV_of {w : World} (h : MapV kk w m f) : Bu w (mapV kk m f) := Bu.on (by simp) (by simpa using h.lt) fun _ h' => h.of_blk (h' m (by simp))
theorem Hs.mapv (h : Hs W L w) (i : Nat) (hi : L[i]? = some (mapV kk m f)) : MapV kk w m f := h.got i hi
theorem Hs.mapv_turn {w' : World} {f' : Int → Option Value} (h : Hs W L w) (i : Nat) (hi : L[i]? = some (mapV kk m f)) (hf : Fr (· = m) w w') (hm : MapV kk w' m f') : Hs W (L.set i (mapV kk m f')) w' :=
  h.turn_at i hi Dm.on (hf.mono fun k _ e => by simp [e]) (mapV_of hm) Dm.on fun k hk => .inl hk
theorem Hs.mapv_new (h : Hs W L w) (kk : IntKind) : Hs W (mapV kk w.heap.size (fun _ => none) :: L) (w.alloc (.map #[] 0)) :=
  h.build ((Fr.refl w).alloc _) (mapV_of (MapV.new kk w)) Dm.on fun k hk => by simp at hk; omega
theorem Hs.mapv_open (h : Hs W L w) (i : Nat) (hi : L[i]? = some (mapV kk m f)) : ∃ es c l, Hs W (L.set i (pt m (.map es c))) w ∧ VRep kk es.toList l ∧ (l.map Prod.fst).Nodup ∧ (∀ k, vval l k = f k) ∧ MapKept.Stamped es c := by
  obtain ⟨es, c, l, h1, h2⟩ := h.mapv i hi
  exact ⟨es, c, l, h.turn_at i hi Dm.on (Fr.refl _) (Bu.pt h1) (Dm.pt m _) fun k hk => .inl hk, h2⟩
theorem Hs.mapv_shut {l : List (Int × Value)} (h : Hs W L w) (i : Nat) (hi : L[i]? = some (pt m (.map es c))) (h2 : VRep kk es.toList l ∧ (l.map Prod.fst).Nodup ∧ (∀ k, vval l k = f k) ∧ MapKept.Stamped es c) : Hs W (L.set i (mapV kk m f)) w :=
  h.turn_at i hi (Dm.pt m _) (Fr.refl _) (mapV_of ⟨es, c, l, h.at i hi, h2⟩) Dm.on fun _ hk => .inl hk
end
end Go.Sh
