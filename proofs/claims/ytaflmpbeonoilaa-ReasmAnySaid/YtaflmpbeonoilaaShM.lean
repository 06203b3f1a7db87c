/-
  Appending one element.
-/
import Derived.Test.YtaflmpbeonoilaaShJ
import Derived.Laws.StructEq
import Derived.ChangeKeysEq
import Derived.Laws.OwnMore
import Derived.Laws.CopyRow
namespace Go.Sh
open Go
theorem Pres.alloc (w : World) (o : Obj) : Pres w (w.alloc o) :=
  ⟨by simp, fun a v h => by rw [← h]; exact World.cell?_of_block (alloc_old (World.block_lt_of_cell? w a h)), fun r es c h => alloc_blk h⟩
theorem push_own {P : Program} {w : World} {base : Nat} {t ty e : TypeId} {size bytes : Nat} {z : Value} {i : TypeInfo} (E : ElemT P t e size bytes z i) {a : Option Addr} {l c : Nat} {xs : List Value} (h : Own w base e size a l c xs)
    {news : Array Value} (hz : news.size = size) (h1 : ∀ u ∈ news.toList, u.oneCell' = true) (hn : l + 1 ≤ 281474976710656) (hb : (l + 1) * bytes ≤ 140737488355328) (hbase : base ≤ w.heap.size) :
    ∃ a' c' w', Sem.run P (Builtin.append_ #[t, t] ty #[.slice a l c, .slice (some (Addr.mk w.heap.size 0 none)) 1 1]) (w.alloc (.cells news e)) = .ok (.slice a' (l + 1) c') w' ∧ Own w' base e size a' (l + 1) c' (xs ++ news.toList) ∧ Fr (inB a) w w' ∧ (∀ k, inB a' k → inB a k ∨ w.heap.size ≤ k) := by
  have hw : Fr (fun _ => False) w (w.alloc (.cells news e)) := (Fr.refl w).alloc _
  have h' : Own (w.alloc (.cells news e)) base e size a l c xs := h.fr hw fun _ _ h => h
  obtain ⟨a', l', c', w', hr, rfl, ho, hf, hi⟩ := append_own (ty := ty) E h' (b := Addr.mk w.heap.size 0 none) (m := 1) (d := 1) (news := news.toList) (by simp [hz])
    (fun j u hj => ⟨_, rfl, by rw [add_mk, cell_at (alloc_new w _)]; simpa using hj⟩) h1 hn hb (by simp; omega)
  refine ⟨a', c', w', hr, ho, (hw.mono (S' := inB a) fun i _ h => h.elim).trans hf fun i _ h => h, fun k hk => ?_⟩
  · rcases hi k hk with h | h
    · exact .inl h
    · simp at h; exact .inr (by omega)
section
variable {P : Program} {w : World} {base : Nat} {t ty e : TypeId} {size bytes : Nat} {z : Value} {i : TypeInfo} {a : Option Addr} {l c : Nat} {xs : List Value} {news : Array Value}
theorem push {K : Option Addr → Nat → Nat → World → Prop} (E : ElemT P t e size bytes z i) (h : Own w base e size a l c xs) (hz : news.size = size) (h1 : ∀ u ∈ news.toList, u.oneCell' = true) (hn : l + 1 ≤ 281474976710656) (hb : (l + 1) * bytes ≤ 140737488355328) (hbase : base ≤ w.heap.size)
    (hk : ∀ a' c' w', Own w' base e size a' (l + 1) c' (xs ++ news.toList) → Fr (inB a) w w' → (∀ k, inB a' k → inB a k ∨ w.heap.size ≤ k) → K a' (l + 1) c' w') :
    ∃ a' l' c' w', Sem.run P (Builtin.append_ #[t, t] ty #[.slice a l c, .slice (some (Addr.mk w.heap.size 0 none)) 1 1]) (w.alloc (.cells news e)) = .ok (.slice a' l' c') w' ∧ K a' l' c' w' := by
  obtain ⟨a', c', w', hr, h2, h3, h4⟩ := push_own (ty := ty) E h hz h1 hn hb hbase
  exact ⟨a', _, c', w', hr, hk a' c' w' h2 h3 h4⟩
theorem Own.put {K : World → Prop} {ad : Addr} {j : Nat} {v : Value} (h : Own w base e size (some ad) l c xs) (hj : j < xs.length)
    (hk : ∀ w', Own w' base e size (some ad) l c (xs.set j v) → Fr (inB (some ad)) w w' → K w') : stc (ad.add j) v w K := by
  rcases h.cases with ⟨h0, _⟩ | ⟨g, cur, h0, h2, h3, h4, h5, h6, h7⟩
  · cases h0
  · cases h0
    rw [add_mk, Nat.zero_add]
    have hl := h.length
    have hjc : j < cur.size := by have := Nat.mul_le_mul_right size h4; omega
    refine stc_at h3 hjc (hk _ ⟨by rw [List.length_set]; exact h.1, .inr ⟨g, c, _, rfl, h2, sb_same h3, h4, h5, by simpa using h6, ?_⟩⟩ ((Fr.refl w).sb fun _ => ⟨_, rfl, rfl⟩))
    rw [Array.toList_setIfInBounds, List.take_set, h7]
theorem Own.cut {n : Nat} (h : Own w base e size a l c xs) (hn : n ≤ l) : Own w base e size a n c (xs.take (n * size)) := by
  have hl := h.length
  have hm := Nat.mul_le_mul_right size hn
  refine ⟨by rw [List.length_take]; omega, ?_⟩
  rcases h.cases with ⟨rfl, rfl, rfl⟩ | ⟨g, cur, rfl, h2, h3, h4, h5, h6, h7⟩
  · have : n = 0 := by omega
    subst this
    exact .inl ⟨rfl, rfl⟩
  · exact .inr ⟨g, c, cur, rfl, h2, h3, by omega, h5, h6, by rw [← h7, List.take_take, Nat.min_eq_left hm]⟩
theorem Own.le (h : Own w base e size a l c xs) : l ≤ c := by
  rcases h.cases with ⟨rfl, rfl, rfl⟩ | ⟨g, cur, rfl, h2, h3, h4, h5, h6, h7⟩
  · exact Nat.le_refl _
  · exact h4
theorem slS_hi {sz : Nat} {k : IntKind} {n : Nat} {K : Option Addr → Nat → Nat → Prop} (hn : n ≤ c) (hk : K a n c) : slS sz a l c none (some (.int k (n : Int))) K := by
  have : (if c = 0 then a else a.map (·.add (0 * sz))) = a := by
    split
    · rfl
    · cases a
      · rfl
      · simp [Addr.add]
  unfold slS bnd
  refine ⟨⟨by omega, by omega⟩, ?_⟩
  show K (if c = 0 then a else a.map (·.add (0 * sz))) ((n : Int).toNat - 0) (c - 0)
  rw [this]
  simpa using hk
end
end Go.Sh
namespace Go.Sh
open Go
section
variable {P : Program} {w : World} {d : Nat} {xs ys : Array Value}
theorem eqF_nil : (Op.eqFields d xs ys []).run P w = .ok true w := rfl
theorem eqF_int {f : Field} {fs : List Field} {k kd : IntKind} {a b : Int} (hn : f.name ≠ "_") (hu : P.underlying f.type = some (.int kd)) (hp : P.plainKey f.type = true) (hx : xs[f.offset]? = some (.int k a)) (hy : ys[f.offset]? = some (.int k b)) :
    (Op.eqFields (d + 1) xs ys (f :: fs)).run P w = if a = b then (Op.eqFields (d + 1) xs ys fs).run P w else .ok false w := by
  rw [Op.eqFields, if_pos hn]
  simp only [Sem.run_bind, run_part_plain w hp hx, run_part_plain w hp hy, Result.andThen_ok, run_equalIn_int w d f.type k kd a b hu]
  by_cases h : a = b
  · subst h; simp
  · simp [h]
/-- two fields of whole numbers -/
theorem neq_int2 {t : TypeId} {x y : Operand} {f g : Field} {k k' kd kd' : IntKind} {a b a' b' : Int} (ht : P.underlying t = some (.struct (P.fieldsOf t))) (hs : P.stoodInHeld t = false) (hm : P.eqGuardType P.depth t = false)
    (hf : (P.fieldsOf t).toList = [f, g]) (hn : f.name ≠ "_") (hn' : g.name ≠ "_") (hu : P.underlying f.type = some (.int kd)) (hu' : P.underlying g.type = some (.int kd')) (hp : P.plainKey f.type = true) (hp' : P.plainKey g.type = true) (ho : f.offset = 0) (ho' : g.offset = 1) :
    Sem.run P (binF P .neq t x y (.agg #[.int k a, .int k' b]) (.agg #[.int k a', .int k' b'])) w = .ok (.bool (!decide (a = a' ∧ b = b'))) w := by
  unfold binF
  simp only [Sem.run_bind, run_eqGuard_agg w _ t x y _ _ hm, Result.andThen_ok, run_neq_struct]
  rw [show (10000 : Nat) = 9999 + 1 from rfl, run_equalIn_agg w 9999 t _ _ ht hs, hf]
  rw [show (9999 : Nat) = 9998 + 1 from rfl, eqF_int (k := k) (a := a) (b := a') hn hu hp (by rw [ho]; rfl) (by rw [ho]; rfl)]
  by_cases h : a = a'
  · rw [if_pos h, eqF_int (k := k') (a := b) (b := b') hn' hu' hp' (by rw [ho']; rfl) (by rw [ho']; rfl)]
    by_cases h' : b = b'
    · rw [if_pos h', eqF_nil]; simp [h, h']
    · rw [if_neg h']; simp [h, h']
  · rw [if_neg h]; simp [h]
def two (P : Program) (t : TypeId) : Bool :=
  (match P.underlying t with | some (.struct _) => true | _ => false) && !P.stoodInHeld t && !P.eqGuardType P.depth t &&
  match (P.fieldsOf t).toList with
  | [f, g] => f.name != "_" && g.name != "_" && P.plainKey f.type && P.plainKey g.type && Nat.beq f.offset 0 && Nat.beq g.offset 1 &&
    (match P.underlying f.type with | some (.int _) => true | _ => false) && (match P.underlying g.type with | some (.int _) => true | _ => false)
  | _ => false
theorem neq_two {t : TypeId} {x y : Operand} {k k' : IntKind} {a b a' b' : Int} (h : two P t = true) :
    Sem.run P (binF P .neq t x y (.agg #[.int k a, .int k' b]) (.agg #[.int k a', .int k' b'])) w = .ok (.bool (!decide (a = a' ∧ b = b'))) w := by
  unfold two at h
  simp only [Bool.and_eq_true] at h
  obtain ⟨⟨⟨h1, h2⟩, h3⟩, h4⟩ := h
  have ht : P.underlying t = some (.struct (P.fieldsOf t)) := by
    unfold Program.fieldsOf
    split at h1
    · rename_i e; rw [e]
    · cases h1
  split at h4
  · rename_i f g hf
    simp only [Bool.and_eq_true] at h4
    obtain ⟨⟨⟨⟨⟨⟨⟨a1, a2⟩, a3⟩, a4⟩, a5⟩, a6⟩, a7⟩, a8⟩ := h4
    split at a7
    · rename_i kd hu
      split at a8
      · rename_i kd' hu'
        exact neq_int2 ht (by simpa using h2) (by simpa using h3) hf (by simpa using a1) (by simpa using a2) hu hu' a3 a4 (Nat.eq_of_beq_eq_true a5) (Nat.eq_of_beq_eq_true a6)
      · cases a8
    · cases a7
  · cases h4
end
/-- a new slice of n elements -/
theorem make_own {P : Program} {w : World} {base : Nat} {t e : TypeId} {size bytes : Nat} {z : Value} {i : TypeInfo} (E : ElemT P t e size bytes z i) {K : Option Addr → Nat → Nat → World → Prop} {kl kc : IntKind} {n : Nat} (hn : n * size ≤ 16777216) (hb : bytes * n ≤ 281474976710656) (hm : n ≤ 281474976710656) (hbase : base ≤ w.heap.size)
    (hk : ∀ w', Own w' base e size (some ⟨w.heap.size, 0, none⟩) n n (madeCells z.cells (n * size)).toList → Fr (fun _ => False) w w' → K (some ⟨w.heap.size, 0, none⟩) n n w') :
    ∃ a l c w', Sem.run P (Instr.makeSlice t (.int kl (n : Int)) (.int kc (n : Int))) w = .ok (.slice a l c) w' ∧ K a l c w' := by
  obtain ⟨w', hr, ho, hg⟩ := run_makeSlice_full (P := P) w base t e i z size E.ht E.hi E.hz E.hsize kl kc n hn (by rw [E.hby]; exact hb) (by unfold maxLen; omega) hbase
  exact ⟨_, _, _, w', hr, hk w' ho ⟨hg.os, hg.tape, hg.output, hg.size, fun k hk _ => hg.block k hk (by simp)⟩⟩
end Go.Sh
namespace Go.Sh
open Go
theorem setRow_sb {w : World} {g : Nat} {old cs : Array Value} {t : TypeId} {fr : Nat × Nat} (h : w.heap[g]? = some (.cells old t fr)) : w.setRow g cs = sb w g (.cells cs t fr) := by
  unfold World.setRow sb
  congr 1
  apply Array.ext_getElem?
  intro i
  rw [Array.getElem?_modify]
  by_cases hi : g = i
  · subst hi
    have := lt_of_blk h
    rw [if_pos rfl, h]
    simp [this]
  · rw [if_neg hi, Array.getElem?_setIfInBounds_ne hi]
section
variable {P : Program} {w : World} {base : Nat} {t ty e : TypeId} {size bytes : Nat} {z : Value} {i : TypeInfo} {ad b : Addr} {l c m d : Nat} {xs news : List Value}
/-- there is room: the same array -/
theorem append_room_own (E : ElemT P t e size bytes z i) (h : Own w base e size (some ad) l c xs) (hl : news.length = m * size) (hnews : Rd w (some b) news) (h1 : ∀ u ∈ news, u.oneCell' = true) (hroom : l + m ≤ c) :
    ∃ w', Sem.run P (Builtin.append_ #[t, t] ty #[.slice (some ad) l c, .slice (some b) m d]) w = .ok (.slice (some ad) (l + m) c) w' ∧ Own w' base e size (some ad) (l + m) c (xs ++ news) ∧ Fr (inB (some ad)) w w' := by
  rcases h.cases with ⟨h0, _⟩ | ⟨g, cur, h0, h2, h3, h4, h5, h6, h7⟩
  · cases h0
  · cases h0
    have hmul : (l + m) * size ≤ c * size := Nat.mul_le_mul_right _ hroom
    have hmul' : (l + m) * size = l * size + m * size := Nat.add_mul _ _ _
    have hr := run_append_room (P := P) w t ty e i E.ht E.hi g l c cur h3 b m d news (by rw [E.hsize]; exact hl) (fun j u hj => hnews.at hj) h1 hroom (by rw [E.hsize, hl, h6]; omega)
    rw [setRow_sb h3] at hr
    refine ⟨_, hr, ⟨?_, .inr ⟨g, c, _, rfl, h2, sb_same h3, hroom, h5, ?_, ?_⟩⟩, (Fr.refl w).sb fun _ => ⟨_, rfl, rfl⟩⟩
    · rw [List.length_append, h.length, hl, hmul']
    · have hcl : cur.toList.length = c * size := by simpa using h6
      simp only [List.size_toArray, List.length_append, List.length_take, List.length_drop, E.hsize, hl, hcl]
      omega
    · have hxl := h.length
      rw [E.hsize, h7, List.take_append_of_le_length (by rw [List.length_append, hxl, hl]; omega), List.take_of_length_le (by rw [List.length_append, hxl, hl]; omega)]
/-- what stands behind the end is cleared -/
theorem clear_own (E : ElemT P t e size bytes z i) (hz1 : ∀ u ∈ z.cells.toList, u.oneCell' = true) (h : Own w base e size (some ad) l c xs) (hc : l + m ≤ c) :
    ∃ w', Sem.run P (Builtin.clear_ #[t] ty #[.slice (some (ad.add (l * size))) m d]) w = .ok (.tuple #[]) w' ∧ Own w' base e size (some ad) l c xs ∧ Fr (inB (some ad)) w w' := by
  rcases h.cases with ⟨h0, _⟩ | ⟨g, cur, h0, h2, h3, h4, h5, h6, h7⟩
  · cases h0
  · cases h0
    rw [add_mk, Nat.zero_add]
    cases m with
    | zero => exact ⟨w, by simp [Builtin.clear_, run_underlying E.ht], h, Fr.refl w⟩
    | succ m =>
      have hmul : (l + (m + 1)) * size ≤ c * size := Nat.mul_le_mul_right _ hc
      have hmul' : (l + (m + 1)) * size = l * size + (m + 1) * size := Nat.add_mul _ _ _
      have hzl : (Builtin.zeroCells z.cells (m + 1)).toList.length = (m + 1) * size := by simp [Builtin.zeroCells, E.hzs]
      have hst := run_storeCells_at P g (l * size) e (Builtin.zeroCells z.cells (m + 1)).toList 0 cur w h3 (by rw [hzl, h6]; omega) (fun v hv => by
        unfold Builtin.zeroCells at hv
        simp only [Array.toList_map, List.mem_map] at hv
        obtain ⟨k, _, rfl⟩ := hv
        have hp : 0 < z.cells.size := by rw [E.hzs]; exact E.pos
        have hk : k % z.cells.size < z.cells.size := Nat.mod_lt _ hp
        rw [getElem!_pos z.cells _ hk]
        exact hz1 _ (by simp))
      have hv : (zeroValue e).run P w = .ok z w := by simp [zeroValue, typeInfo, E.hi, E.hz]
      rw [setRow_sb h3] at hst
      have hrun : Sem.run P (Builtin.clear_ #[t] ty #[.slice (some ⟨g, l * size, none⟩) (m + 1) d]) w = .ok (.tuple #[]) (sb w g (.cells (cur.toList.take (l * size + 0) ++ (Builtin.zeroCells z.cells (m + 1)).toList ++ cur.toList.drop (l * size + 0 + (Builtin.zeroCells z.cells (m + 1)).toList.length)).toArray e (0, 0))) := by
        simp [Builtin.clear_, run_underlying E.ht, hv, hst]
      refine ⟨_, hrun, ⟨h.length, .inr ⟨g, c, _, rfl, h2, sb_same h3, h4, h5, ?_, ?_⟩⟩, (Fr.refl w).sb fun _ => ⟨_, rfl, rfl⟩⟩
      · have hcl : cur.toList.length = c * size := by simpa using h6
        simp only [List.size_toArray, List.length_append, List.length_take, List.length_drop, hzl, hcl]
        omega
      · have hcl : cur.toList.length = c * size := by simpa using h6
        simp only [Nat.add_zero]
        rw [List.append_assoc, List.take_append_of_le_length (by rw [List.length_take]; omega), List.take_take, Nat.min_self, h7]
theorem slS_lo {sz : Nat} {a : Option Addr} {k : IntKind} {j : Nat} {K : Option Addr → Nat → Nat → Prop} (hj : j ≤ l) (hk : K (if c = j then a else a.map (·.add (j * sz))) (l - j) (c - j)) : slS sz a l c (some (.int k (j : Int))) none K := by
  unfold slS bnd
  exact ⟨⟨by omega, by omega⟩, hk⟩
theorem slS_lh {sz : Nat} {a : Option Addr} {k k' : IntKind} {j h : Nat} {K : Option Addr → Nat → Nat → Prop} (hj : j ≤ h) (hh : h ≤ c) (hk : K (if c = j then a else a.map (·.add (j * sz))) (h - j) (c - j)) : slS sz a l c (some (.int k (j : Int))) (some (.int k' (h : Int))) K := by
  unfold slS bnd
  exact ⟨⟨by omega, by omega⟩, ⟨by omega, by simp; omega⟩, hk⟩
/-- a slice of a slice, with all three bounds -/
theorem slice3 (E : ElemT P t e size bytes z i) {a : Option Addr} {k k' k'' : IntKind} {x y m : Nat} {K : Option Addr → Nat → Nat → World → Prop} (h1 : x ≤ y) (h2 : y ≤ m) (h3 : m ≤ c) (hk : K (if m = x then a else a.map (·.add (x * size))) (y - x) (m - x) w) :
    ∃ a' l' c' w', Sem.run P (Instr.sliceAt t (.slice a l c) (some (.int k (x : Int))) (some (.int k' (y : Int))) (some (.int k'' (m : Int)))) w = .ok (.slice a' l' c') w' ∧ K a' l' c' w' := by
  have he : P.elem t = e := by simp [Program.elem, E.ht]
  have ht : P.underlying t = some (.slice (P.elem t)) := by rw [he]; exact E.ht
  have hs : (sizeOf e).run P w = .ok size w := by simp [sizeOf, typeInfo, E.hi, E.hsize]
  refine ⟨_, _, _, w, ?_, hk⟩
  rw [run_sliceAt_slice w t _ _ _ _ ht, run_slice_lhm w t a l c ht k k' k'' (x : Int) (y : Int) (m : Int) (by omega) (by omega) (by omega) (by omega), he, hs]
  simp [sliced]
theorem Own.tail (h : Own w base e size (some ad) l c xs) {j : Nat} (hj : j ≤ l) : ∃ b, (if c = j then some ad else (some ad).map (·.add (j * size))) = some b ∧ Rd w (some b) (xs.drop (j * size)) := by
  by_cases hc : c = j
  · rw [if_pos hc]
    refine ⟨ad, rfl, ?_⟩
    have hl := h.length
    have hle := h.le
    have : xs.drop (j * size) = [] := List.drop_eq_nil_of_le (by rw [hl]; exact Nat.mul_le_mul_right _ (by omega))
    rw [this]
    exact Rd.nil _ _
  · rw [if_neg hc]
    refine ⟨_, rfl, fun k u hk => ⟨_, rfl, ?_⟩⟩
    rw [List.getElem?_drop] at hk
    rw [add_add]
    exact h.rd.at hk
end
end Go.Sh
