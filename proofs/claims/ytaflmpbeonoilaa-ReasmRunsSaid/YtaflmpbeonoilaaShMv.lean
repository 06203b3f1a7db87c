/-
  Owned memory: what a contract of another kind says of some blocks, as an assertion.
-/
import Derived.Test.YtaflmpbeonoilaaShU
import Derived.Laws.IdiomRangeMap
namespace Go.Sh
open Go
/-- a fact that rests on some blocks alone -/
def on (f : List Nat) (P : World → Prop) : HP := fun x => f.Nodup ∧ (∀ k, x k ≠ none ↔ k ∈ f) ∧ ∀ w, ag x w → P w
section
variable {W w : World} {L M : List HP} {A B : HP} {f g : List Nat} {P Q : World → Prop}
theorem Dm.on : Dm (Sh.on f P) f := fun _ hx => ⟨hx.1, hx.2.1⟩
theorem Bu.on (hn : f.Nodup) (hb : ∀ k ∈ f, k < w.heap.size) (hl : ∀ w', (∀ k ∈ f, w'.heap[k]? = w.heap[k]?) → P w') : Bu w (Sh.on f P) := by
  refine ⟨fun k => if k ∈ f then w.heap[k]? else none, ⟨hn, fun k => ?_, fun w' a => hl w' fun k hk => ?_⟩, fun k o e => ?_⟩
  · constructor
    · intro h
      rcases Classical.em (k ∈ f) with h' | h'
      · exact h'
      · exact absurd (if_neg h') h
    · intro h
      show (if k ∈ f then w.heap[k]? else none) ≠ none
      rw [if_pos h]
      simp [hb k h]
  · have e : w.heap[k]? = some (w.heap[k]'(hb k hk)) := by simp [hb k hk]
    rw [e]
    exact a k _ (by show (if k ∈ f then w.heap[k]? else none) = _; rw [if_pos hk, e])
  · have e : (if k ∈ f then w.heap[k]? else none) = some o := e
    split at e
    · exact e
    · cases e
theorem Hs.got (h : Hs W L w) (i : Nat) (hi : L[i]? = some (Sh.on f P)) : P w := by
  obtain ⟨x, hx, a, _⟩ := h.look hi
  exact hx.2.2 w a
theorem Hs.on_low (h : Hs W L w) (i : Nat) (hi : L[i]? = some (Sh.on f P)) : ∀ k ∈ f, W.heap.size ≤ k ∧ k < w.heap.size := by
  obtain ⟨x, hx, a, lo⟩ := h.look hi
  intro k hk
  have := (hx.2.1 k).2 hk
  exact ⟨lo k this, ag_lt a this⟩
/-- it turns, at its place -/
theorem Hs.turn_at {w' : World} (h : Hs W L w) (i : Nat) (hi : L[i]? = some A) (d1 : Dm A f) (hf : Fr (· ∈ f) w w') (hb : Bu w' B) (d2 : Dm B g) (hg : ∀ k ∈ g, k ∈ f ∨ w.heap.size ≤ k) : Hs W (L.set i B) w' :=
  ((h.focus hi).turn d1 hf hb d2 hg).unfocus (List.getElem?_eq_some_iff.1 hi).1
theorem Hs.on_turn {w' : World} (h : Hs W L w) (i : Nat) (hi : L[i]? = some (Sh.on f P)) (hf : Fr (· ∈ f) w w') (hn : g.Nodup) (hb : ∀ k ∈ g, k < w'.heap.size) (hl : ∀ w2, (∀ k ∈ g, w2.heap[k]? = w'.heap[k]?) → Q w2) (hg : ∀ k ∈ g, k ∈ f ∨ w.heap.size ≤ k) : Hs W (L.set i (Sh.on g Q)) w' :=
  h.turn_at i hi Dm.on hf (Bu.on hn hb hl) Dm.on hg
/-- two lists of parts change their places -/
theorem Hs.flip {X Y : List HP} : Hs W (X ++ (Y ++ L)) w ↔ Hs W (Y ++ (X ++ L)) w := by
  have p : ∀ (X Y : List HP), (X ++ (Y ++ L)).Perm (Y ++ (X ++ L)) := fun X Y => by
    rw [← List.append_assoc, ← List.append_assoc]
    exact List.Perm.append_right L List.perm_append_comm
  exact ⟨fun h => h.perm (p X Y), fun h => h.perm (p Y X)⟩
theorem Hs.cast (h : Hs W L w) (e : L = M) : Hs W M w := e ▸ h
end
/-! a map of ints, owned -/
section
variable {W w : World} {L : List HP} {kk kv kd : IntKind} {m : Nat} {f : Int → Option Int} {P : Program} {T kt et : TypeId} {k v : Int}
def mapP (kk kv : IntKind) (m : Nat) (f : Int → Option Int) : HP := on [m] fun w => MapI kk kv w m f
theorem mapP_of {w : World} (h : MapI kk kv w m f) : Bu w (mapP kk kv m f) := Bu.on (by simp) (by simpa using h.lt) fun _ h' => h.of_blk (h' m (by simp))
theorem Hs.map (h : Hs W L w) (i : Nat) (hi : L[i]? = some (mapP kk kv m f)) : MapI kk kv w m f := h.got i hi
theorem Hs.map_turn {w' : World} {f' : Int → Option Int} (h : Hs W L w) (i : Nat) (hi : L[i]? = some (mapP kk kv m f)) (hf : Fr (· = m) w w') (hm : MapI kk kv w' m f') : Hs W (L.set i (mapP kk kv m f')) w' :=
  h.turn_at i hi Dm.on (hf.mono fun k _ e => by simp [e]) (mapP_of hm) Dm.on fun k hk => .inl hk
theorem Hs.map_new (h : Hs W L w) (kk kv : IntKind) : Hs W (mapP kk kv w.heap.size (fun _ => none) :: L) (w.alloc (.map #[] 0)) :=
  h.build ((Fr.refl w).alloc _) (mapP_of (MapI.new kk kv w)) Dm.on fun k hk => by simp at hk; omega
end
end Go.Sh
namespace Go.Sh
open Go Go.RowKit
section
variable {W w : World} {L : List HP} {kk kv kd : IntKind} {m it since c0 c : Nat} {f : Int → Option Int} {P : Program} {T kt et ty : TypeId} {k v : Int} {es : Array MapEntry} {seen : Array Nat} {z : Option Nat}
theorem run_range_at (hT : P.underlying T = some (.map kt et)) (hb : w.heap[m]? = some (.map es c)) :
    (Instr.range T (.map (some m))).run P w = .ok (.pointer (some ⟨w.heap.size, 0, none⟩)) (w.alloc (.mapIter (some m) c #[] c)) := run_range_map w T kt et m es c hT hb
theorem run_next_at (hi : w.heap[it]? = some (.mapIter (some m) since seen c0)) (hb : w.heap[m]? = some (.map es c)) (hold : ∀ x ∈ es.toList, x.born < since) (hsc : since ≤ c0) :
    ((leftOf es seen).size = 0 ∧ (Instr.next (.pointer (some ⟨it, 0, none⟩)) false ty).run P w = .ok (.tuple #[.bool false]) w) ∨
    ∃ e ∈ (leftOf es seen).toList, ∃ w1 : World, (w1 = w ∨ w1 = w.drew) ∧ (Instr.next (.pointer (some ⟨it, 0, none⟩)) false ty).run P w = .ok (.tuple #[.bool true, e.key, e.val]) (sb w1 it (.mapIter (some m) since (seen.push e.born) c)) := by
  have g1 : (getObj it).run P w = .ok (.mapIter (some m) since seen c0) w := run_getObj hi (fun _ _ _ e => by cases e)
  have g2 : (getObj m).run P w = .ok (.map es c) w := run_getObj hb (fun _ _ _ e => by cases e)
  simp only [Instr.next, Sem.run_bind, g1, g2, Result.andThen_ok, next_test_false seen es since c0 hold hsc, Bool.false_eq_true, if_false]
  unfold leftOf
  have hmem : ∀ x ∈ (Array.filter (fun e => !seen.contains e.born) es).toList, x.born < since := fun x hx => hold x (by simp at hx ⊢; exact hx.1)
  generalize Array.filter (fun e => !seen.contains e.born) es = L at hmem ⊢
  have e1 : L.filter (fun x => decide (x.born < since)) = L := Array.filter_eq_self.2 (fun x hx => by simpa using hmem x (by simpa using hx))
  have e2 : L.filter (fun x => decide (x.born ≥ since)) = #[] := by
    rw [Array.filter_eq_empty_iff]
    intro x hx
    have := hmem x (by simpa using hx)
    simp
    omega
  simp only [e1, e2, Array.append_empty]
  by_cases h0 : L.size = 0
  · left
    have : L = #[] := Array.eq_empty_of_size_eq_zero h0
    subst this
    refine ⟨rfl, ?_⟩
    simp [choose, Sem.run, Question.forced]
  · right
    have hne : L.isEmpty = false := by simp [Array.isEmpty, h0]
    simp only [hne, Bool.false_eq_true, if_false, Array.empty_append, Array.size_map]
    have hch : ∃ (j : Nat) (w1 : World), j < L.size ∧ (w1 = w ∨ w1 = w.drew) ∧ (choose (Question.mapNext L.size)).run P w = .ok j w1 := by
      by_cases hf : L.size ≤ 1
      · exact ⟨0, w, by omega, .inl rfl, by simp [choose, Sem.run, Question.forced, hf]⟩
      · exact ⟨_, w.drew, Nat.mod_lt _ (by omega), .inr rfl, by
          simp only [choose, Sem.run, Question.forced, decide_eq_true_eq, hf, if_false, Question.cut]
          rfl⟩
    obtain ⟨j, w1, hj, hal, hrun⟩ := hch
    refine ⟨L[j], by simp, w1, hal, ?_⟩
    have hi1 : w1.heap[it]? = some (.mapIter (some m) since seen c0) := by rcases hal with rfl | rfl <;> exact hi
    have hset := run_setObj (P := P) (o := .mapIter (some m) since (seen.push (L[j]).born) c) hi1 (fun _ _ _ e => by cases e)
    simp only [hrun, Array.getElem?_map, Array.getElem?_eq_getElem hj, Option.map_some, Sem.run_bind, hset, Result.andThen_ok]
    rfl
theorem run_entry_at {e : MapEntry} (hi : w.heap[it]? = some (.mapIter (some m) since (seen.push e.born) c)) (hb : w.heap[m]? = some (.map es c)) (he : e ∈ es.toList) (hn : (es.toList.map (·.born)).Nodup) :
    (Instr.entry (.pointer (some ⟨it, 0, none⟩))).run P w = .ok (.tuple #[e.key, e.val]) w := by
  have g1 : (getObj it).run P w = .ok (.mapIter (some m) since (seen.push e.born) c) w := run_getObj hi (fun _ _ _ e => by cases e)
  have g2 : (getObj m).run P w = .ok (.map es c) w := run_getObj hb (fun _ _ _ e => by cases e)
  have hf : es.find? (·.born == e.born) = some e := by rw [← Array.find?_toList]; exact find_born e es.toList hn he
  simp only [Instr.entry, Sem.run_bind, g1, g2, Result.andThen_ok, Array.back?_push, bne_self_eq_false, Bool.false_eq_true, if_false, hf]
  rfl
theorem ixS_to {sz l : Nat} {ad : Addr} {i : Int} {p : Nat} {K : Addr → Prop} (hi : i = (p : Int)) (h1 : p < l) (hk : K (ad.add (p * sz))) : ixS sz (some ad) l i K := by
  subst hi
  exact ixS_of (by omega) (by omega) (by rw [Int.toNat_natCast]; exact hk)
theorem Hs.dropL {X : List HP} (h : Hs W (X ++ L) w) : Hs W L w := by
  induction X with
  | nil => exact h
  | cons A X ih => exact ih h.drop
theorem Hs.over {w' : World} {M : List HP} (h : Hs W L w) (h2 : Hs w M w') : Hs W (M ++ L) w' := by
  obtain ⟨s, x, hx, a, b⟩ := h2
  exact Hs.cons_bigS.1 (h.new s hx a b)
/-- one step of the loop -/
theorem Hs.next (h : Hs W L w) (i j : Nat) (hi : L[i]? = some (pt it (.mapIter (some m) since seen c0))) (hj : L[j]? = some (pt m (.map es c))) (hold : ∀ x ∈ es.toList, x.born < since) (hsc : since ≤ c0) {K0 : World → Prop} {K1 : Value → Value → World → Prop}
    (h0 : (leftOf es seen).size = 0 → K0 w) (h1 : ∀ e ∈ (leftOf es seen).toList, ∀ w', Hs W (L.set i (pt it (.mapIter (some m) since (seen.push e.born) c))) w' → K1 e.key e.val w') :
    (∃ w2, Sem.run P (Instr.next (.pointer (some ⟨it, 0, none⟩)) false ty) w = .ok (.tuple #[.bool false]) w2 ∧ K0 w2) ∨ (∃ k v w2, Sem.run P (Instr.next (.pointer (some ⟨it, 0, none⟩)) false ty) w = .ok (.tuple #[.bool true, k, v]) w2 ∧ K1 k v w2) := by
  rcases run_next_at (P := P) (ty := ty) (h.at i hi) (h.at j hj) hold hsc with ⟨hz, hr⟩ | ⟨e, he, w1, hw, hr⟩
  · exact .inl ⟨w, hr, h0 hz⟩
  · refine .inr ⟨_, _, _, hr, h1 e he _ ?_⟩
    have h2 : Hs W L w1 := by
      rcases hw with rfl | rfl
      · exact h
      · exact h.drew
    exact h2.sb i hi _
theorem Hs.entry {e : MapEntry} (h : Hs W L w) (i j : Nat) (hi : L[i]? = some (pt it (.mapIter (some m) since (seen.push e.born) c))) (hj : L[j]? = some (pt m (.map es c))) (he : e ∈ es.toList) (hn : (es.toList.map (·.born)).Nodup) :
    Sem.run P (Instr.entry (.pointer (some ⟨it, 0, none⟩))) w = .ok (.tuple #[e.key, e.val]) w := run_entry_at (h.at i hi) (h.at j hj) he hn
/-- a map laid open, and shut -/
theorem Hs.map_open (h : Hs W L w) (i : Nat) (hi : L[i]? = some (mapP kk kv m f)) : ∃ es c l, Hs W (L.set i (pt m (.map es c))) w ∧ MRep kk kv es.toList l ∧ (l.map Prod.fst).Nodup ∧ (∀ k, mval l k = f k) ∧ MapKept.Stamped es c := by
  obtain ⟨es, c, l, h1, h2⟩ := h.map i hi
  exact ⟨es, c, l, h.turn_at i hi Dm.on (Fr.refl _) (Bu.pt h1) (Dm.pt m _) fun k hk => .inl hk, h2⟩
theorem Hs.map_shut {l : List (Int × Int)} (h : Hs W L w) (i : Nat) (hi : L[i]? = some (pt m (.map es c))) (h2 : MRep kk kv es.toList l ∧ (l.map Prod.fst).Nodup ∧ (∀ k, mval l k = f k) ∧ MapKept.Stamped es c) : Hs W (L.set i (mapP kk kv m f)) w :=
  h.turn_at i hi (Dm.pt m _) (Fr.refl _) (mapP_of ⟨es, c, l, h.at i hi, h2⟩) Dm.on fun _ hk => .inl hk
theorem run_len_map {n : Nat} {ats : Array TypeId} {t : TypeId} (ha : ats[0]? = some T) (hT : P.underlying T = some (.map kt et)) (hb : w.heap[m]? = some (.map es c)) (hn : es.size = n) :
    (Builtin.len_ ats t #[.map (some m)]).run P w = .ok (.int .i64 (n : Int)) w := by
  have g2 : (getObj m).run P w = .ok (.map es c) w := run_getObj hb (fun _ _ _ e => by cases e)
  unfold Builtin.len_
  simp [ha, run_under hT, g2, hn, goInt]
end
end Go.Sh
namespace Go.Sh
open Go

def vval : List (Int × Value) → Int → Option Value
  | [], _ => none
  | p :: r, k => if k = p.1 then some p.2 else vval r k
def VRep (kk : IntKind) (es : List MapEntry) (l : List (Int × Value)) : Prop :=
  es.map (fun e => (e.key, e.val)) = l.map (fun p => (Value.int kk p.1, p.2))
def MapV (kk : IntKind) (w : World) (m : Nat) (f : Int → Option Value) : Prop :=
  ∃ es c l, w.heap[m]? = some (.map es c) ∧ VRep kk es.toList l ∧ (l.map Prod.fst).Nodup ∧ (∀ k, vval l k = f k) ∧ MapKept.Stamped es c
def updV (f : Int → Option Value) (k : Int) (v : Option Value) : Int → Option Value := fun j => if j = k then v else f j

theorem MapV.lt {kk : IntKind} {w : World} {m : Nat} {f : Int → Option Value} (h : MapV kk w m f) : m < w.heap.size := by
  obtain ⟨es, c, l, h, _⟩ := h
  exact lt_of_blk h
theorem MapV.of_blk {kk : IntKind} {w w' : World} {m : Nat} {f : Int → Option Value} (h : MapV kk w m f) (e : w'.heap[m]? = w.heap[m]?) : MapV kk w' m f := by
  obtain ⟨es, c, l, h1, h⟩ := h
  exact ⟨es, c, l, by rw [e]; exact h1, h⟩
theorem MapV.fr {kk : IntKind} {w w' : World} {m : Nat} {f : Int → Option Value} {S : Nat → Prop} (h : MapV kk w m f) (hf : Fr S w w') (hn : ¬ S m) : MapV kk w' m f := h.of_blk (hf.block m h.lt hn)
theorem MapV.ne_cells {kk : IntKind} {w : World} {m b : Nat} {f : Int → Option Value} {cs : Array Value} {T : TypeId} {z : Nat × Nat} (h : MapV kk w m f) (hb : w.heap[b]? = some (.cells cs T z)) : m ≠ b := by
  obtain ⟨es, c, l, h1, h⟩ := h
  intro e
  subst e
  rw [h1] at hb
  cases hb
theorem MapV.new (kk : IntKind) (w : World) : MapV kk (w.alloc (.map #[] 0)) w.heap.size fun _ => none :=
  ⟨#[], 0, [], alloc_new w _, rfl, by simp, fun _ => rfl, MapKept.stamped_empty 0⟩

theorem findNow_val {kk kd : IntKind} {k : Int} : ∀ {es : List MapEntry} {l : List (Int × Value)} (i : Nat), VRep kk es l →
    (vval l k = none ∧ Instr.findNow (.int kd) (.int kk k) es i = some none) ∨
    (∃ j v, vval l k = some v ∧ Instr.findNow (.int kd) (.int kk k) es i = some (some (i + j, v)) ∧ l[j]? = some (k, v))
  | [], [], i, _ => .inl ⟨rfl, rfl⟩
  | [], _ :: _, _, h => by simp [VRep] at h
  | _ :: _, [], _, h => by simp [VRep] at h
  | e :: es, p :: l, i, h => by
    simp only [VRep, List.map_cons, List.cons.injEq, Prod.mk.injEq] at h
    obtain ⟨⟨h1, h2⟩, h3⟩ := h
    unfold vval Instr.findNow
    simp only [h1, Instr.sameNow, if_true]
    by_cases hk : k = p.1
    · refine .inr ⟨0, p.2, by rw [if_pos hk], ?_, by rw [hk]; rfl⟩
      have : (k == p.1) = true := by simp [hk]
      rw [this, h2]
      rfl
    · rw [if_neg hk]
      have : (k == p.1) = false := by simp [hk]
      rw [this]
      rcases findNow_val (k := k) (kd := kd) (i + 1) h3 with ⟨h, h'⟩ | ⟨j, v, h, h', hj⟩
      · exact .inl ⟨h, h'⟩
      · exact .inr ⟨j + 1, v, h, by rw [h', Nat.add_assoc, Nat.add_comm 1 j], hj⟩

section
variable {P : Program} {w : World} {T kt et : TypeId} {kk kd : IntKind} {m : Nat} {f : Int → Option Value} {k : Int} {v z0 : Value}
theorem look_val (hk : P.underlying kt = some (.int kd)) (hz : (P.info? et).bind (·.zero) = some z0) (hm : MapV kk w m f) :
    lookF P kt et (.map (some m)) (.int kk k) false w = some ((f k).getD z0) := by
  obtain ⟨es, c, l, h1, h2, _, h3, _⟩ := hm
  unfold lookF
  simp only [h1, hk, hz]
  rcases findNow_val (k := k) (kd := kd) 0 h2 with ⟨h, h'⟩ | ⟨j, v, h, h', _⟩
  · rw [h', ← h3 k, h]; rfl
  · rw [h', ← h3 k, h]; rfl
theorem look_val_ok (hk : P.underlying kt = some (.int kd)) (hz : (P.info? et).bind (·.zero) = some z0) (hm : MapV kk w m f) :
    lookF P kt et (.map (some m)) (.int kk k) true w = some (.tuple #[((f k).getD z0), .bool (f k).isSome]) := by
  obtain ⟨es, c, l, h1, h2, _, h3, _⟩ := hm
  unfold lookF
  simp only [h1, hk, hz]
  rcases findNow_val (k := k) (kd := kd) 0 h2 with ⟨h, h'⟩ | ⟨j, v, h, h', _⟩
  · rw [h', ← h3 k, h]; rfl
  · rw [h', ← h3 k, h]; rfl
theorem lookv_nil (hk : P.underlying kt = some (.int kd)) (hz : (P.info? et).bind (·.zero) = some z0) : lookF P kt et (.map none) (.int kk k) false w = some z0 := by
  unfold lookF
  simp only [hk, hz]
  rfl
theorem vval_set {l : List (Int × Value)} {j : Nat} {u : Value} (hj : l[j]? = some (k, u)) (hn : (l.map Prod.fst).Nodup) (i : Int) : vval (l.set j (k, v)) i = if i = k then some v else vval l i := by
  induction l generalizing j with
  | nil => simp at hj
  | cons p l ih =>
    cases j with
    | zero =>
      simp only [List.getElem?_cons_zero, Option.some.injEq] at hj
      subst hj
      simp only [List.set_cons_zero, vval]
      by_cases hi : i = k
      · simp [hi]
      · simp [hi]
    | succ j =>
      simp only [List.getElem?_cons_succ] at hj
      simp only [List.map_cons, List.nodup_cons] at hn
      simp only [List.set_cons_succ, vval]
      by_cases hi : i = p.1
      · have hne : i ≠ k := by
          intro e
          refine hn.1 ?_
          rw [← hi, e]
          exact List.mem_map.2 ⟨(k, u), List.mem_of_getElem? hj, rfl⟩
        rw [if_pos hi, if_pos hi, if_neg hne]
      · rw [if_neg hi, if_neg hi]
        exact ih hj hn.2
theorem vval_snoc {l : List (Int × Value)} (h : vval l k = none) (i : Int) : vval (l ++ [(k, v)]) i = if i = k then some v else vval l i := by
  induction l with
  | nil => simp [vval]
  | cons p l ih =>
    simp only [List.cons_append, vval] at h ⊢
    by_cases hk : k = p.1
    · rw [if_pos hk] at h; cases h
    · rw [if_neg hk] at h
      by_cases hi : i = p.1
      · have hne : i ≠ k := by intro e; exact hk (by rw [← e, hi])
        rw [if_pos hi, if_pos hi, if_neg hne]
      · rw [if_neg hi, if_neg hi]; exact ih h
theorem vval_mem {l : List (Int × Value)} (h : k ∈ l.map Prod.fst) : ∃ u, vval l k = some u := by
  induction l with
  | nil => simp at h
  | cons p l ih =>
    simp only [vval]
    by_cases hk : k = p.1
    · exact ⟨p.2, by rw [if_pos hk]⟩
    · rw [if_neg hk]
      simp only [List.map_cons, List.mem_cons] at h
      exact ih (h.resolve_left hk)
theorem vval_erase {l : List (Int × Value)} {j : Nat} {u : Value} (hj : l[j]? = some (k, u)) (hn : (l.map Prod.fst).Nodup) (i : Int) : vval (l.eraseIdx j) i = if i = k then none else vval l i := by
  induction l generalizing j with
  | nil => simp at hj
  | cons p l ih =>
    simp only [List.map_cons, List.nodup_cons] at hn
    cases j with
    | zero =>
      simp only [List.getElem?_cons_zero, Option.some.injEq] at hj
      subst hj
      simp only [List.eraseIdx_zero, List.tail_cons, vval]
      by_cases hi : i = k
      · subst hi
        rw [if_pos rfl]
        cases hm : vval l i with
        | none => rfl
        | some u' =>
          exfalso
          have : ∀ l : List (Int × Value), vval l i = some u' → i ∈ l.map Prod.fst := by
            intro l
            induction l with
            | nil => intro h; cases h
            | cons q l ih =>
              intro h
              simp only [vval] at h
              by_cases hq : i = q.1
              · simp [hq]
              · rw [if_neg hq] at h; simp only [List.map_cons, List.mem_cons]; exact .inr (ih h)
          exact hn.1 (this l hm)
      · simp [hi]
    | succ j =>
      simp only [List.getElem?_cons_succ] at hj
      simp only [List.eraseIdx_cons_succ, vval]
      by_cases hi : i = p.1
      · have hne : i ≠ k := by
          intro e
          refine hn.1 ?_
          rw [← hi, e]
          exact List.mem_map.2 ⟨(k, u), List.mem_of_getElem? hj, rfl⟩
        rw [if_pos hi, if_pos hi, if_neg hne]
      · rw [if_neg hi, if_neg hi]
        exact ih hj hn.2
theorem vmap_modify {es : Array MapEntry} {j : Nat} {g : MapEntry → MapEntry} : (es.modify j g).toList = es.toList.modify j g := by simp
theorem vrep_modify {j : Nat} : ∀ {es : List MapEntry} {l : List (Int × Value)} {u : Value}, VRep kk es l → l[j]? = some (k, u) → VRep kk (es.modify j fun e => { e with key := .int kk k, val := v }) (l.set j (k, v)) := by
  intro es l u h hj
  unfold VRep at h ⊢
  apply List.ext_getElem?
  intro i
  have hi := congrArg (·[i]?) h
  simp only [List.getElem?_map] at hi ⊢
  rw [List.getElem?_modify, List.getElem?_set]
  by_cases hij : j = i
  · subst hij
    have hlt := (List.getElem?_eq_some_iff.1 hj).1
    rw [hj] at hi
    simp only [if_true, hlt]
    cases he : es[j]? with
    | none => rw [he] at hi; cases hi
    | some e => simp
  · simp only [hij, if_false]
    cases he : es[i]? with
    | none => rw [he] at hi; simpa using hi
    | some e => rw [he] at hi; simpa using hi
theorem vmap_erase {α β : Type} (g : α → β) : ∀ (l : List α) (j : Nat), (l.eraseIdx j).map g = (l.map g).eraseIdx j
  | [], _ => rfl
  | _ :: _, 0 => rfl
  | a :: l, j + 1 => by simp only [List.eraseIdx_cons_succ, List.map_cons, vmap_erase g l j]
theorem vrep_erase {j : Nat} {es : List MapEntry} {l : List (Int × Value)} (h : VRep kk es l) : VRep kk (es.eraseIdx j) (l.eraseIdx j) := by
  unfold VRep at h ⊢
  rw [vmap_erase, vmap_erase, h]
theorem vrep_key {es : List MapEntry} {l : List (Int × Value)} {j : Nat} {e : MapEntry} (h : VRep kk es l) (he : es[j]? = some e) : ∃ q, l[j]? = some q ∧ e.key = .int kk q.1 := by
  have hi := congrArg (·[j]?) h
  simp only [List.getElem?_map, he, Option.map_some] at hi
  cases hq : l[j]? with
  | none => rw [hq] at hi; cases hi
  | some q =>
    rw [hq] at hi
    simp only [Option.map_some, Option.some.injEq, Prod.mk.injEq] at hi
    exact ⟨q, rfl, hi.1⟩
theorem store_val (hT : P.underlying T = some (.map kt et)) (hk : P.underlying kt = some (.int kd)) (hm : MapV kk w m f) :
    ∃ o, (Instr.mapUpdate T (.map (some m)) (.int kk k) v).run P w = .ok () (sb w m o) ∧ MapV kk (sb w m o) m (updV f k (some v)) := by
  obtain ⟨es, c, l, h1, h2, hnd, h3, hstp⟩ := hm
  have hck : (Instr.checkKey false 10000 kt (.int kk k)).run P w = .ok () w := checkKey_int hk false 9999 _
  have hg : (getObj m).run P w = .ok (.map es c) w := run_getObj h1 (fun _ _ _ e => by cases e)
  unfold Instr.mapUpdate
  simp only [Sem.run_bind, run_under hT, Result.andThen_ok, hg, hck]
  rcases findNow_val (k := k) (kd := kd) 0 h2 with ⟨h, h'⟩ | ⟨j, u, h, h', hj⟩
  · rw [run_findKey_int hk h']
    simp only [Result.andThen_ok]
    refine ⟨_, run_setObj h1 (fun _ _ _ e => by cases e), _, _, l ++ [(k, v)], sb_same h1, ?_, ?_, fun i => ?_, MapKept.stamped_push hstp fun x hx e => ?_⟩
    · unfold VRep at h2 ⊢; simp [h2]
    · rw [List.map_append, List.nodup_append]
      refine ⟨hnd, by simp, fun a ha b hb e => ?_⟩
      simp at hb
      subst hb
      subst e
      obtain ⟨u, hu⟩ := vval_mem ha
      rw [h] at hu
      cases hu
    · rw [vval_snoc h, h3]; rfl
    · obtain ⟨j, hj⟩ := List.getElem?_of_mem hx
      obtain ⟨q, hq, e1⟩ := vrep_key h2 hj
      rw [e1] at e
      injection e with _ e
      obtain ⟨u, hu⟩ := vval_mem (k := k) (List.mem_map.2 ⟨q, List.mem_of_getElem? hq, e⟩)
      rw [h] at hu
      cases hu
  · rw [run_findKey_int hk h']
    simp only [Result.andThen_ok, Nat.zero_add]
    have hkey : (((es[j]?).map (·.key)).getD (.int kk k)) = .int kk k := by
      have := congrArg (·[j]?) h2
      simp only [List.getElem?_map, hj, Option.map_some, Array.getElem?_toList] at this
      cases he : es[j]? with
      | none => rfl
      | some e =>
        rw [he] at this
        simp only [Option.map_some, Option.some.injEq, Prod.mk.injEq] at this
        simp [this.1]
    have hst : (Instr.keyThatStays (((es[j]?).map (·.key)).getD (.int kk k)) (.int kk k)).run P w = .ok (.int kk k) w := by
      rw [hkey]
      unfold Instr.keyThatStays
      have : Instr.sameBits 10000 (.int kk k) (.int kk k) = true := by
        have : ∀ n, Instr.sameBits n (.int kk k) (.int kk k) = true := fun n => by cases n <;> simp [Instr.sameBits]
        exact this 10000
      rw [if_pos this]
      rfl
    rw [Sem.run_bind, hst]
    simp only [Result.andThen_ok]
    refine ⟨_, run_setObj h1 (fun _ _ _ e => by cases e), _, _, l.set j (k, v), sb_same h1, ?_, ?_, fun i => ?_, MapKept.stamped_modify hstp _ _ (fun _ _ => rfl) fun e _ he => ?_⟩
    · rw [vmap_modify]; exact vrep_modify h2 hj
    · have : (l.set j (k, v)).map Prod.fst = l.map Prod.fst := by
        rw [List.map_set]
        refine List.ext_getElem? fun i => ?_
        rw [List.getElem?_set]
        by_cases hij : j = i
        · subst hij
          obtain ⟨hlt, he⟩ := List.getElem?_eq_some_iff.1 hj
          simp [hlt, he]
        · simp [hij]
      rw [this]; exact hnd
    · rw [vval_set hj hnd, h3]; rfl
    · obtain ⟨q, hq, e1⟩ := vrep_key h2 (by simpa using he)
      rw [hj] at hq
      cases hq
      exact e1.symm
theorem delete_val {ats : Array TypeId} {ty : TypeId} (ha : ats[0]? = some T) (hT : P.underlying T = some (.map kt et)) (hk : P.underlying kt = some (.int kd)) (hm : MapV kk w m f) :
    ∃ o, (Builtin.delete_ ats ty #[.map (some m), .int kk k]).run P w = .ok (.tuple #[]) (sb w m o) ∧ MapV kk (sb w m o) m (updV f k none) := by
  obtain ⟨es, c, l, h1, h2, hnd, h3, hstp⟩ := hm
  have hck : ∀ g, (Instr.checkKey g 10000 kt (.int kk k)).run P w = .ok () w := fun g => checkKey_int hk g 9999 _
  have hg : (getObj m).run P w = .ok (.map es c) w := run_getObj h1 (fun _ _ _ e => by cases e)
  unfold Builtin.delete_
  simp only [ha, List.getElem?_toArray, List.getElem?_cons_zero, List.getElem?_cons_succ, Sem.run_bind, run_under hT, Result.andThen_ok, hg, hck]
  rcases findNow_val (k := k) (kd := kd) 0 h2 with ⟨h, h'⟩ | ⟨j, u, h, h', hj⟩
  · rw [run_findKey_int hk h']
    simp only [Result.andThen_ok]
    rw [Sem.run_bind, run_setObj h1 (fun _ _ _ e => by cases e)]
    simp only [Result.andThen_ok, Sem.run_pure]
    refine ⟨_, rfl, _, _, l, sb_same h1, h2, hnd, fun i => ?_, hstp⟩
    rw [h3]
    unfold updV
    by_cases hi : i = k
    · rw [if_pos hi, hi, ← h3, h]
    · rw [if_neg hi]
  · rw [run_findKey_int hk h']
    simp only [Result.andThen_ok, Nat.zero_add]
    rw [Sem.run_bind, run_setObj h1 (fun _ _ _ e => by cases e)]
    simp only [Result.andThen_ok, Sem.run_pure]
    refine ⟨_, rfl, _, _, l.eraseIdx j, sb_same h1, ?_, ?_, fun i => ?_, MapKept.stamped_erase hstp j⟩
    · rw [Array.toList_eraseIdxIfInBounds]; exact vrep_erase h2
    · rw [vmap_erase]; exact hnd.sublist (List.eraseIdx_sublist _ _)
    · rw [vval_erase hj hnd, h3]; rfl
end
/-! owned -/
section
variable {W w : World} {L : List HP} {kk kd : IntKind} {m it since c0 c : Nat} {f : Int → Option Value} {P : Program} {T kt et ty : TypeId} {k : Int} {es : Array MapEntry}
def mapV (kk : IntKind) (m : Nat) (f : Int → Option Value) : HP := on [m] fun w => MapV kk w m f
theorem mapV_of {w : World} (h : MapV kk w m f) : Bu w (mapV kk m f) := Bu.on (by simp) (by simpa using h.lt) fun _ h' => h.of_blk (h' m (by simp))
theorem Hs.mapv (h : Hs W L w) (i : Nat) (hi : L[i]? = some (mapV kk m f)) : MapV kk w m f := h.got i hi
theorem Hs.mapv_turn {w' : World} {f' : Int → Option Value} (h : Hs W L w) (i : Nat) (hi : L[i]? = some (mapV kk m f)) (hf : Fr (· = m) w w') (hm : MapV kk w' m f') : Hs W (L.set i (mapV kk m f')) w' :=
  h.turn_at i hi Dm.on (hf.mono fun k _ e => by simp [e]) (mapV_of hm) Dm.on fun k hk => .inl hk
theorem Hs.mapv_new (h : Hs W L w) (kk : IntKind) : Hs W (mapV kk w.heap.size (fun _ => none) :: L) (w.alloc (.map #[] 0)) :=
  h.build ((Fr.refl w).alloc _) (mapV_of (MapV.new kk w)) Dm.on fun k hk => by simp at hk; omega
theorem Hs.mapv_open (h : Hs W L w) (i : Nat) (hi : L[i]? = some (mapV kk m f)) : ∃ es c l, Hs W (L.set i (pt m (.map es c))) w ∧ VRep kk es.toList l ∧ (l.map Prod.fst).Nodup ∧ (∀ k, vval l k = f k) ∧ MapKept.Stamped es c := by
  obtain ⟨es, c, l, h1, h2⟩ := h.mapv i hi
  exact ⟨es, c, l, h.turn_at i hi Dm.on (Fr.refl _) (Bu.pt h1) (Dm.pt m _) fun k hk => .inl hk, h2⟩
theorem Hs.mapv_shut {l : List (Int × Value)} (h : Hs W L w) (i : Nat) (hi : L[i]? = some (pt m (.map es c))) (h2 : VRep kk es.toList l ∧ (l.map Prod.fst).Nodup ∧ (∀ k, vval l k = f k) ∧ MapKept.Stamped es c) : Hs W (L.set i (mapV kk m f)) w :=
  h.turn_at i hi (Dm.pt m _) (Fr.refl _) (mapV_of ⟨es, c, l, h.at i hi, h2⟩) Dm.on fun _ hk => .inl hk
end
end Go.Sh
