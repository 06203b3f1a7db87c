/-
  Comparing structs of whole numbers.
-/
import Derived.Test.YtdagfdejjfobhaaShK
import Derived.Laws.StructEq
import Derived.ChangeKeysEq
import Derived.Laws.OwnMore
namespace Go.Sh
open Go
section
variable {P : Program} {w : World} {d : Nat} {xs ys : Array Value}
theorem eqF_nil : (Op.eqFields d xs ys []).run P w = .ok true w := rfl
theorem eqF_int {f : Field} {fs : List Field} {k kd : IntKind} {a b : Int} (hn : f.name ≠ "_") (hu : P.underlying f.type = some (.int kd)) (hp : P.plainKey f.type = true) (hx : xs[f.offset]? = some (.int k a)) (hy : ys[f.offset]? = some (.int k b)) :
    (Op.eqFields (d + 1) xs ys (f :: fs)).run P w = if a = b then (Op.eqFields (d + 1) xs ys fs).run P w else .ok false w := by
  rw [Op.eqFields, if_pos hn]
  simp only [Sem.run_bind, run_part_plain w hp hx, run_part_plain w hp hy, Result.andThen_ok, run_equalIn_int w d f.type k kd a b hu]
  by_cases h : a = b
  · subst h; simp
  · simp [h]
/-- two fields of whole numbers -/
theorem neq_int2 {t : TypeId} {x y : Operand} {f g : Field} {k k' kd kd' : IntKind} {a b a' b' : Int} (ht : P.underlying t = some (.struct (P.fieldsOf t))) (hs : P.stoodInHeld t = false) (hm : P.eqGuardType P.depth t = false)
    (hf : (P.fieldsOf t).toList = [f, g]) (hn : f.name ≠ "_") (hn' : g.name ≠ "_") (hu : P.underlying f.type = some (.int kd)) (hu' : P.underlying g.type = some (.int kd')) (hp : P.plainKey f.type = true) (hp' : P.plainKey g.type = true) (ho : f.offset = 0) (ho' : g.offset = 1) :
    Sem.run P (binF P .neq t x y (.agg #[.int k a, .int k' b]) (.agg #[.int k a', .int k' b'])) w = .ok (.bool (!decide (a = a' ∧ b = b'))) w := by
  unfold binF
  simp only [Sem.run_bind, run_eqGuard_agg w _ t x y _ _ hm, Result.andThen_ok, run_neq_struct]
  rw [show (10000 : Nat) = 9999 + 1 from rfl, run_equalIn_agg w 9999 t _ _ ht hs, hf]
  rw [show (9999 : Nat) = 9998 + 1 from rfl, eqF_int (k := k) (a := a) (b := a') hn hu hp (by rw [ho]; rfl) (by rw [ho]; rfl)]
  by_cases h : a = a'
  · rw [if_pos h, eqF_int (k := k') (a := b) (b := b') hn' hu' hp' (by rw [ho']; rfl) (by rw [ho']; rfl)]
    by_cases h' : b = b'
    · rw [if_pos h', eqF_nil]; simp [h, h']
    · rw [if_neg h']; simp [h, h']
  · rw [if_neg h]; simp [h]
def two (P : Program) (t : TypeId) : Bool :=
  (match P.underlying t with | some (.struct _) => true | _ => false) && !P.stoodInHeld t && !P.eqGuardType P.depth t &&
  match (P.fieldsOf t).toList with
  | [f, g] => f.name != "_" && g.name != "_" && P.plainKey f.type && P.plainKey g.type && Nat.beq f.offset 0 && Nat.beq g.offset 1 &&
    (match P.underlying f.type with | some (.int _) => true | _ => false) && (match P.underlying g.type with | some (.int _) => true | _ => false)
  | _ => false
theorem neq_two {t : TypeId} {x y : Operand} {k k' : IntKind} {a b a' b' : Int} (h : two P t = true) :
    Sem.run P (binF P .neq t x y (.agg #[.int k a, .int k' b]) (.agg #[.int k a', .int k' b'])) w = .ok (.bool (!decide (a = a' ∧ b = b'))) w := by
  unfold two at h
  simp only [Bool.and_eq_true] at h
  obtain ⟨⟨⟨h1, h2⟩, h3⟩, h4⟩ := h
  have ht : P.underlying t = some (.struct (P.fieldsOf t)) := by
    unfold Program.fieldsOf
    split at h1
    · rename_i e; rw [e]
    · cases h1
  split at h4
  · rename_i f g hf
    simp only [Bool.and_eq_true] at h4
    obtain ⟨⟨⟨⟨⟨⟨⟨a1, a2⟩, a3⟩, a4⟩, a5⟩, a6⟩, a7⟩, a8⟩ := h4
    split at a7
    · rename_i kd hu
      split at a8
      · rename_i kd' hu'
        exact neq_int2 ht (by simpa using h2) (by simpa using h3) hf (by simpa using a1) (by simpa using a2) hu hu' a3 a4 (Nat.eq_of_beq_eq_true a5) (Nat.eq_of_beq_eq_true a6)
      · cases a8
    · cases a7
  · cases h4
end
/-- a new slice of n elements -/
theorem make_own {P : Program} {w : World} {base : Nat} {t e : TypeId} {size bytes : Nat} {z : Value} {i : TypeInfo} (E : ElemT P t e size bytes z i) {K : Option Addr → Nat → Nat → World → Prop} {kl kc : IntKind} {n : Nat} (hn : n * size ≤ 16777216) (hb : bytes * n ≤ 281474976710656) (hm : n ≤ 281474976710656) (hbase : base ≤ w.heap.size)
    (hk : ∀ w', Own w' base e size (some ⟨w.heap.size, 0, none⟩) n n (madeCells z.cells (n * size)).toList → Fr (fun _ => False) w w' → K (some ⟨w.heap.size, 0, none⟩) n n w') :
    ∃ a l c w', Sem.run P (Instr.makeSlice t (.int kl (n : Int)) (.int kc (n : Int))) w = .ok (.slice a l c) w' ∧ K a l c w' := by
  obtain ⟨w', hr, ho, hg⟩ := run_makeSlice_full (P := P) w base t e i z size E.ht E.hi E.hz E.hsize kl kc n hn (by rw [E.hby]; exact hb) (by unfold maxLen; omega) hbase
  exact ⟨_, _, _, w', hr, hk w' ho ⟨hg.os, hg.tape, hg.output, hg.size, fun k hk _ => hg.block k hk (by simp)⟩⟩
end Go.Sh
