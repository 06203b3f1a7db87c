/-
  Owned memory: what a contract of another kind says of some blocks, as an assertion.
-/
import Derived.Test.YtaflmpbeonoilaaShU
import Derived.Laws.IdiomRangeMap
namespace Go.Sh
open Go
/-- a fact that rests on some blocks alone -/
def on (f : List Nat) (P : World → Prop) : HP := fun x => f.Nodup ∧ (∀ k, x k ≠ none ↔ k ∈ f) ∧ ∀ w, ag x w → P w
section
variable {W w : World} {L M : List HP} {A B : HP} {f g : List Nat} {P Q : World → Prop}
theorem Dm.on : Dm (Sh.on f P) f := fun _ hx => ⟨hx.1, hx.2.1⟩
theorem Bu.on (hn : f.Nodup) (hb : ∀ k ∈ f, k < w.heap.size) (hl : ∀ w', (∀ k ∈ f, w'.heap[k]? = w.heap[k]?) → P w') : Bu w (Sh.on f P) := by
  refine ⟨fun k => if k ∈ f then w.heap[k]? else none, ⟨hn, fun k => ?_, fun w' a => hl w' fun k hk => ?_⟩, fun k o e => ?_⟩
  · constructor
    · intro h
      rcases Classical.em (k ∈ f) with h' | h'
      · exact h'
      · exact absurd (if_neg h') h
    · intro h
      show (if k ∈ f then w.heap[k]? else none) ≠ none
      rw [if_pos h]
      simp [hb k h]
  · have e : w.heap[k]? = some (w.heap[k]'(hb k hk)) := by simp [hb k hk]
    rw [e]
    exact a k _ (by show (if k ∈ f then w.heap[k]? else none) = _; rw [if_pos hk, e])
  · have e : (if k ∈ f then w.heap[k]? else none) = some o := e
    split at e
    · exact e
    · cases e
theorem Hs.got (h : Hs W L w) (i : Nat) (hi : L[i]? = some (Sh.on f P)) : P w := by
  obtain ⟨x, hx, a, _⟩ := h.look hi
  exact hx.2.2 w a
theorem Hs.on_low (h : Hs W L w) (i : Nat) (hi : L[i]? = some (Sh.on f P)) : ∀ k ∈ f, W.heap.size ≤ k ∧ k < w.heap.size := by
  obtain ⟨x, hx, a, lo⟩ := h.look hi
  intro k hk
  have := (hx.2.1 k).2 hk
  exact ⟨lo k this, ag_lt a this⟩
/-- it turns, at its place -/
theorem Hs.turn_at {w' : World} (h : Hs W L w) (i : Nat) (hi : L[i]? = some A) (d1 : Dm A f) (hf : Fr (· ∈ f) w w') (hb : Bu w' B) (d2 : Dm B g) (hg : ∀ k ∈ g, k ∈ f ∨ w.heap.size ≤ k) : Hs W (L.set i B) w' :=
  ((h.focus hi).turn d1 hf hb d2 hg).unfocus (List.getElem?_eq_some_iff.1 hi).1
theorem Hs.on_turn {w' : World} (h : Hs W L w) (i : Nat) (hi : L[i]? = some (Sh.on f P)) (hf : Fr (· ∈ f) w w') (hn : g.Nodup) (hb : ∀ k ∈ g, k < w'.heap.size) (hl : ∀ w2, (∀ k ∈ g, w2.heap[k]? = w'.heap[k]?) → Q w2) (hg : ∀ k ∈ g, k ∈ f ∨ w.heap.size ≤ k) : Hs W (L.set i (Sh.on g Q)) w' :=
  h.turn_at i hi Dm.on hf (Bu.on hn hb hl) Dm.on hg
/-- two lists of parts change their places -/
theorem Hs.flip {X Y : List HP} : Hs W (X ++ (Y ++ L)) w ↔ Hs W (Y ++ (X ++ L)) w := by
  have p : ∀ (X Y : List HP), (X ++ (Y ++ L)).Perm (Y ++ (X ++ L)) := fun X Y => by
    rw [← List.append_assoc, ← List.append_assoc]
    exact List.Perm.append_right L List.perm_append_comm
  exact ⟨fun h => h.perm (p X Y), fun h => h.perm (p Y X)⟩
theorem Hs.cast (h : Hs W L w) (e : L = M) : Hs W M w := e ▸ h
end
/-! a map of ints, owned -/
section
variable {W w : World} {L : List HP} {kk kv kd : IntKind} {m : Nat} {f : Int → Option Int} {P : Program} {T kt et : TypeId} {k v : Int}
def mapP (kk kv : IntKind) (m : Nat) (f : Int → Option Int) : HP := on [m] fun w => MapI kk kv w m f
theorem mapP_of {w : World} (h : MapI kk kv w m f) : Bu w (mapP kk kv m f) := Bu.on (by simp) (by simpa using h.lt) fun _ h' => h.of_blk (h' m (by simp))
theorem Hs.map (h : Hs W L w) (i : Nat) (hi : L[i]? = some (mapP kk kv m f)) : MapI kk kv w m f := h.got i hi
theorem Hs.map_turn {w' : World} {f' : Int → Option Int} (h : Hs W L w) (i : Nat) (hi : L[i]? = some (mapP kk kv m f)) (hf : Fr (· = m) w w') (hm : MapI kk kv w' m f') : Hs W (L.set i (mapP kk kv m f')) w' :=
  h.turn_at i hi Dm.on (hf.mono fun k _ e => by simp [e]) (mapP_of hm) Dm.on fun k hk => .inl hk
theorem Hs.map_new (h : Hs W L w) (kk kv : IntKind) : Hs W (mapP kk kv w.heap.size (fun _ => none) :: L) (w.alloc (.map #[] 0)) :=
  h.build ((Fr.refl w).alloc _) (mapP_of (MapI.new kk kv w)) Dm.on fun k hk => by simp at hk; omega
end
end Go.Sh
namespace Go.Sh
open Go Go.RowKit
section
variable {W w : World} {L : List HP} {kk kv kd : IntKind} {m it since c0 c : Nat} {f : Int → Option Int} {P : Program} {T kt et ty : TypeId} {k v : Int} {es : Array MapEntry} {seen : Array Nat} {z : Option Nat}
theorem run_range_at (hT : P.underlying T = some (.map kt et)) (hb : w.heap[m]? = some (.map es c)) :
    (Instr.range T (.map (some m))).run P w = .ok (.pointer (some ⟨w.heap.size, 0, none⟩)) (w.alloc (.mapIter (some m) c #[] c)) := run_range_map w T kt et m es c hT hb
theorem run_next_at (hi : w.heap[it]? = some (.mapIter (some m) since seen c0)) (hb : w.heap[m]? = some (.map es c)) (hold : ∀ x ∈ es.toList, x.born < since) (hsc : since ≤ c0) :
    ((leftOf es seen).size = 0 ∧ (Instr.next (.pointer (some ⟨it, 0, none⟩)) false ty).run P w = .ok (.tuple #[.bool false]) w) ∨
    ∃ e ∈ (leftOf es seen).toList, ∃ w1 : World, (w1 = w ∨ w1 = w.drew) ∧ (Instr.next (.pointer (some ⟨it, 0, none⟩)) false ty).run P w = .ok (.tuple #[.bool true, e.key, e.val]) (sb w1 it (.mapIter (some m) since (seen.push e.born) c)) := by
  have g1 : (getObj it).run P w = .ok (.mapIter (some m) since seen c0) w := run_getObj hi (fun _ _ _ e => by cases e)
  have g2 : (getObj m).run P w = .ok (.map es c) w := run_getObj hb (fun _ _ _ e => by cases e)
  simp only [Instr.next, Sem.run_bind, g1, g2, Result.andThen_ok, next_test_false seen es since c0 hold hsc, Bool.false_eq_true, if_false]
  unfold leftOf
  have hmem : ∀ x ∈ (Array.filter (fun e => !seen.contains e.born) es).toList, x.born < since := fun x hx => hold x (by simp at hx ⊢; exact hx.1)
  generalize Array.filter (fun e => !seen.contains e.born) es = L at hmem ⊢
  have e1 : L.filter (fun x => decide (x.born < since)) = L := Array.filter_eq_self.2 (fun x hx => by simpa using hmem x (by simpa using hx))
  have e2 : L.filter (fun x => decide (x.born ≥ since)) = #[] := by
    rw [Array.filter_eq_empty_iff]
    intro x hx
    have := hmem x (by simpa using hx)
    simp
    omega
  simp only [e1, e2, Array.append_empty]
  by_cases h0 : L.size = 0
  · left
    have : L = #[] := Array.eq_empty_of_size_eq_zero h0
    subst this
    refine ⟨rfl, ?_⟩
    simp [choose, Sem.run, Question.forced]
  · right
    have hne : L.isEmpty = false := by simp [Array.isEmpty, h0]
    simp only [hne, Bool.false_eq_true, if_false, Array.empty_append, Array.size_map]
    have hch : ∃ (j : Nat) (w1 : World), j < L.size ∧ (w1 = w ∨ w1 = w.drew) ∧ (choose (Question.mapNext L.size)).run P w = .ok j w1 := by
      by_cases hf : L.size ≤ 1
      · exact ⟨0, w, by omega, .inl rfl, by simp [choose, Sem.run, Question.forced, hf]⟩
      · exact ⟨_, w.drew, Nat.mod_lt _ (by omega), .inr rfl, by
          simp only [choose, Sem.run, Question.forced, decide_eq_true_eq, hf, if_false, Question.cut]
          rfl⟩
    obtain ⟨j, w1, hj, hal, hrun⟩ := hch
    refine ⟨L[j], by simp, w1, hal, ?_⟩
    have hi1 : w1.heap[it]? = some (.mapIter (some m) since seen c0) := by rcases hal with rfl | rfl <;> exact hi
    have hset := run_setObj (P := P) (o := .mapIter (some m) since (seen.push (L[j]).born) c) hi1 (fun _ _ _ e => by cases e)
    simp only [hrun, Array.getElem?_map, Array.getElem?_eq_getElem hj, Option.map_some, Sem.run_bind, hset, Result.andThen_ok]
    rfl
theorem run_entry_at {e : MapEntry} (hi : w.heap[it]? = some (.mapIter (some m) since (seen.push e.born) c)) (hb : w.heap[m]? = some (.map es c)) (he : e ∈ es.toList) (hn : (es.toList.map (·.born)).Nodup) :
    (Instr.entry (.pointer (some ⟨it, 0, none⟩))).run P w = .ok (.tuple #[e.key, e.val]) w := by
  have g1 : (getObj it).run P w = .ok (.mapIter (some m) since (seen.push e.born) c) w := run_getObj hi (fun _ _ _ e => by cases e)
  have g2 : (getObj m).run P w = .ok (.map es c) w := run_getObj hb (fun _ _ _ e => by cases e)
  have hf : es.find? (·.born == e.born) = some e := by rw [← Array.find?_toList]; exact find_born e es.toList hn he
  simp only [Instr.entry, Sem.run_bind, g1, g2, Result.andThen_ok, Array.back?_push, bne_self_eq_false, Bool.false_eq_true, if_false, hf]
  rfl
theorem ixS_to {sz l : Nat} {ad : Addr} {i : Int} {p : Nat} {K : Addr → Prop} (hi : i = (p : Int)) (h1 : p < l) (hk : K (ad.add (p * sz))) : ixS sz (some ad) l i K := by
  subst hi
  exact ixS_of (by omega) (by omega) (by rw [Int.toNat_natCast]; exact hk)
theorem Hs.dropL {X : List HP} (h : Hs W (X ++ L) w) : Hs W L w := by
  induction X with
  | nil => exact h
  | cons A X ih => exact ih h.drop
theorem Hs.over {w' : World} {M : List HP} (h : Hs W L w) (h2 : Hs w M w') : Hs W (M ++ L) w' := by
  obtain ⟨s, x, hx, a, b⟩ := h2
  exact Hs.cons_bigS.1 (h.new s hx a b)
/-- one step of the loop -/
theorem Hs.next (h : Hs W L w) (i j : Nat) (hi : L[i]? = some (pt it (.mapIter (some m) since seen c0))) (hj : L[j]? = some (pt m (.map es c))) (hold : ∀ x ∈ es.toList, x.born < since) (hsc : since ≤ c0) {K0 : World → Prop} {K1 : Value → Value → World → Prop}
    (h0 : (leftOf es seen).size = 0 → K0 w) (h1 : ∀ e ∈ (leftOf es seen).toList, ∀ w', Hs W (L.set i (pt it (.mapIter (some m) since (seen.push e.born) c))) w' → K1 e.key e.val w') :
    (∃ w2, Sem.run P (Instr.next (.pointer (some ⟨it, 0, none⟩)) false ty) w = .ok (.tuple #[.bool false]) w2 ∧ K0 w2) ∨ (∃ k v w2, Sem.run P (Instr.next (.pointer (some ⟨it, 0, none⟩)) false ty) w = .ok (.tuple #[.bool true, k, v]) w2 ∧ K1 k v w2) := by
  rcases run_next_at (P := P) (ty := ty) (h.at i hi) (h.at j hj) hold hsc with ⟨hz, hr⟩ | ⟨e, he, w1, hw, hr⟩
  · exact .inl ⟨w, hr, h0 hz⟩
  · refine .inr ⟨_, _, _, hr, h1 e he _ ?_⟩
    have h2 : Hs W L w1 := by
      rcases hw with rfl | rfl
      · exact h
      · exact h.drew
    exact h2.sb i hi _
theorem Hs.entry {e : MapEntry} (h : Hs W L w) (i j : Nat) (hi : L[i]? = some (pt it (.mapIter (some m) since (seen.push e.born) c))) (hj : L[j]? = some (pt m (.map es c))) (he : e ∈ es.toList) (hn : (es.toList.map (·.born)).Nodup) :
    Sem.run P (Instr.entry (.pointer (some ⟨it, 0, none⟩))) w = .ok (.tuple #[e.key, e.val]) w := run_entry_at (h.at i hi) (h.at j hj) he hn
/-- a map laid open, and shut -/
theorem Hs.map_open (h : Hs W L w) (i : Nat) (hi : L[i]? = some (mapP kk kv m f)) : ∃ es c l, Hs W (L.set i (pt m (.map es c))) w ∧ MRep kk kv es.toList l ∧ (l.map Prod.fst).Nodup ∧ (∀ k, mval l k = f k) ∧ MapKept.Stamped es c := by
  obtain ⟨es, c, l, h1, h2⟩ := h.map i hi
  exact ⟨es, c, l, h.turn_at i hi Dm.on (Fr.refl _) (Bu.pt h1) (Dm.pt m _) fun k hk => .inl hk, h2⟩
theorem Hs.map_shut {l : List (Int × Int)} (h : Hs W L w) (i : Nat) (hi : L[i]? = some (pt m (.map es c))) (h2 : MRep kk kv es.toList l ∧ (l.map Prod.fst).Nodup ∧ (∀ k, mval l k = f k) ∧ MapKept.Stamped es c) : Hs W (L.set i (mapP kk kv m f)) w :=
  h.turn_at i hi (Dm.pt m _) (Fr.refl _) (mapP_of ⟨es, c, l, h.at i hi, h2⟩) Dm.on fun _ hk => .inl hk
theorem run_len_map {n : Nat} {ats : Array TypeId} {t : TypeId} (ha : ats[0]? = some T) (hT : P.underlying T = some (.map kt et)) (hb : w.heap[m]? = some (.map es c)) (hn : es.size = n) :
    (Builtin.len_ ats t #[.map (some m)]).run P w = .ok (.int .i64 (n : Int)) w := by
  have g2 : (getObj m).run P w = .ok (.map es c) w := run_getObj hb (fun _ _ _ e => by cases e)
  unfold Builtin.len_
  simp [ha, run_under hT, g2, hn, goInt]
end
end Go.Sh
