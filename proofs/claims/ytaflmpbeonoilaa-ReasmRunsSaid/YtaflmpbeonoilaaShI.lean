/-
  Small laws for contracts over shallow texts: worlds block by block; reading and writing a cell of a block that is known whole; what a call leaves alone; maps from integers to integers.
-/
import Derived.Test.YtaflmpbeonoilaaShG
import Derived.MapKept
namespace Go.Sh
open Go

/-! worlds -/
/-- a block laid anew -/
def sb (w : World) (b : Nat) (o : Obj) : World := { w with heap := w.heap.setIfInBounds b o }
theorem lt_of_blk {w : World} {b : Nat} {o : Obj} (h : w.heap[b]? = some o) : b < w.heap.size := (Array.getElem?_eq_some_iff.1 h).1
@[simp] theorem sb_size (w : World) (b : Nat) (o : Obj) : (sb w b o).heap.size = w.heap.size := by simp [sb]
theorem sb_same {w : World} {b : Nat} {o o' : Obj} (h : w.heap[b]? = some o') : (sb w b o).heap[b]? = some o := by
  have := lt_of_blk h
  simp [sb, this]
theorem sb_other {w : World} {b c : Nat} {o : Obj} (h : c ≠ b) : (sb w b o).heap[c]? = w.heap[c]? := by
  simp [sb, Array.getElem?_setIfInBounds_ne (Ne.symm h)]
theorem alloc_new (w : World) (o : Obj) : (w.alloc o).heap[w.heap.size]? = some o := by
  show (w.heap.push o)[w.heap.size]? = some o
  simp
theorem alloc_old {w : World} {o : Obj} {c : Nat} (h : c < w.heap.size) : (w.alloc o).heap[c]? = w.heap[c]? := RowKit.Below.heap_alloc w o c h
theorem alloc_blk {w : World} {o o' : Obj} {c : Nat} (h : w.heap[c]? = some o') : (w.alloc o).heap[c]? = some o' := by rw [alloc_old (lt_of_blk h)]; exact h
@[simp] theorem drew_heap (w : World) : w.drew.heap = w.heap := rfl

/-- what is the same in two worlds but for blocks in S: the streams, every block of old that is not in S; no block is gone -/
structure Fr (S : Nat → Prop) (w w' : World) : Prop where
  os : w'.os = w.os
  tape : w'.tape = w.tape
  output : w'.output = w.output
  size : w.heap.size ≤ w'.heap.size
  block : ∀ k, k < w.heap.size → ¬ S k → w'.heap[k]? = w.heap[k]?
theorem Fr.refl {S : Nat → Prop} (w : World) : Fr S w w := ⟨rfl, rfl, rfl, Nat.le_refl _, fun _ _ _ => rfl⟩
theorem Fr.trans {S S' : Nat → Prop} {a b c : World} (h : Fr S a b) (k : Fr S' b c) (hs : ∀ i, i < a.heap.size → S' i → S i) : Fr S a c :=
  ⟨k.os.trans h.os, k.tape.trans h.tape, k.output.trans h.output, Nat.le_trans h.size k.size, fun i hi hn => (k.block i (Nat.lt_of_lt_of_le hi h.size) fun x => hn (hs i hi x)).trans (h.block i hi hn)⟩
theorem Fr.mono {S S' : Nat → Prop} {a b : World} (h : Fr S a b) (hs : ∀ i, i < a.heap.size → S i → S' i) : Fr S' a b :=
  ⟨h.os, h.tape, h.output, h.size, fun i hi hn => h.block i hi fun x => hn (hs i hi x)⟩
theorem Fr.alloc {S : Nat → Prop} {a w : World} (h : Fr S a w) (o : Obj) : Fr S a (w.alloc o) :=
  ⟨h.os, h.tape, h.output, by have := h.size; simp; omega, fun i hi hn => by rw [alloc_old (by have := h.size; omega)]; exact h.block i hi hn⟩
theorem Fr.drew {S : Nat → Prop} {a w : World} (h : Fr S a w) : Fr S a w.drew := ⟨h.os, h.tape, h.output, h.size, h.block⟩
theorem Fr.sb {S : Nat → Prop} {a w : World} (h : Fr S a w) {b : Nat} {o : Obj} (hb : b < a.heap.size → S b) : Fr S a (Sh.sb w b o) :=
  ⟨h.os, h.tape, h.output, by have := h.size; simpa using this, fun i hi hn => by rw [sb_other (fun e => hn (by subst e; exact hb hi))]; exact h.block i hi hn⟩
theorem Fr.blk {S : Nat → Prop} {a w : World} (h : Fr S a w) {c : Nat} {o : Obj} (hc : a.heap[c]? = some o) (hn : ¬ S c) : w.heap[c]? = some o := by
  rw [h.block c (lt_of_blk hc) hn]; exact hc
theorem Fr.below {S : Nat → Prop} {a w : World} (h : Fr S a w) {B : Nat} (hB : B ≤ a.heap.size) (hs : ∀ i, S i → B ≤ i) : RowKit.Below B a w :=
  ⟨h.os, h.tape, h.output, h.size, fun k hk => h.block k (by omega) fun x => by have := hs k x; omega⟩

/-! cells of a block that is known -/
section
variable {w : World} {b o : Nat} {cs : Array Value} {T : TypeId} {z : Nat × Nat}
@[simp] theorem add_mk (b o n : Nat) : (Addr.mk b o none).add n = Addr.mk b (o + n) none := by
  unfold Addr.add
  split
  · rename_i h; subst h; rfl
  · rfl
theorem cell_at (h : w.heap[b]? = some (.cells cs T z)) : w.cell? (Addr.mk b o none) = cs[o]? := by simp [World.cell?, h]
theorem ldI_at {k : IntKind} {n : Int} {K : Int → Prop} (h : w.heap[b]? = some (.cells cs T z)) (hv : cs[o]? = some (.int k n)) (hk : K n) : ldI k (Addr.mk b o none) w K := ⟨n, by rw [cell_at h, hv], hk⟩
theorem ldB_at {n : Bool} {K : Bool → Prop} (h : w.heap[b]? = some (.cells cs T z)) (hv : cs[o]? = some (.bool n)) (hk : K n) : ldB (Addr.mk b o none) w K := ⟨n, by rw [cell_at h, hv], hk⟩
theorem ldS_at {n : ByteArray} {K : ByteArray → Prop} (h : w.heap[b]? = some (.cells cs T z)) (hv : cs[o]? = some (.string n)) (hk : K n) : ldS (Addr.mk b o none) w K := ⟨n, by rw [cell_at h, hv], hk⟩
theorem ldP_at {n : Option Addr} {K : Option Addr → Prop} (h : w.heap[b]? = some (.cells cs T z)) (hv : cs[o]? = some (.pointer n)) (hk : K n) : ldP (Addr.mk b o none) w K := ⟨n, by rw [cell_at h, hv], hk⟩
theorem ldM_at {n : Option Nat} {K : Option Nat → Prop} (h : w.heap[b]? = some (.cells cs T z)) (hv : cs[o]? = some (.map n)) (hk : K n) : ldM (Addr.mk b o none) w K := ⟨n, by rw [cell_at h, hv], hk⟩
theorem ldV_at {n : Value} {K : Value → Prop} (h : w.heap[b]? = some (.cells cs T z)) (hv : cs[o]? = some n) (hk : K n) : ldV (Addr.mk b o none) w K := ⟨n, by rw [cell_at h, hv], hk⟩
theorem ldC_at {a : Option Addr} {l c : Nat} {K : Option Addr → Nat → Nat → Prop} (h : w.heap[b]? = some (.cells cs T z)) (hv : cs[o]? = some (.slice a l c)) (hk : K a l c) : ldC (Addr.mk b o none) w K := ⟨a, l, c, by rw [cell_at h, hv], hk⟩
theorem setCell_sb {v : Value} (h : w.heap[b]? = some (.cells cs T z)) : w.setCell (Addr.mk b o none) v = sb w b (.cells (cs.setIfInBounds o v) T z) := by
  unfold World.setCell sb
  congr 1
  apply Array.ext_getElem?
  intro i
  rw [Array.getElem?_modify]
  by_cases hi : b = i
  · subst hi
    have := lt_of_blk h
    rw [if_pos rfl, h]
    simp [this]
  · rw [if_neg hi, Array.getElem?_setIfInBounds_ne hi]
theorem stc_at {v : Value} {K : World → Prop} (h : w.heap[b]? = some (.cells cs T (0, 0))) (ho : o < cs.size) (hk : K (sb w b (.cells (cs.setIfInBounds o v) T (0, 0)))) : stc (Addr.mk b o none) v w K := by
  refine ⟨⟨?_, ?_⟩, ?_⟩
  · rw [cell_at h]; simp [ho]
  · simp [World.frozen?, h]
  · rw [setCell_sb h]; exact hk
end

/-! readers on what is written out -/
section
variable {K : Prop}
theorem rdI_mk {k : IntKind} {n : Int} {K : Int → Prop} : rdI k (.int k n) K ↔ K n := by simp [rdI]
theorem rdB_mk {n : Bool} {K : Bool → Prop} : rdB (.bool n) K ↔ K n := by simp [rdB]
theorem rdS_mk {n : ByteArray} {K : ByteArray → Prop} : rdS (.string n) K ↔ K n := by simp [rdS]
theorem rdP_mk {n : Option Addr} {K : Option Addr → Prop} : rdP (.pointer n) K ↔ K n := by simp [rdP]
theorem rdA_mk {n : Addr} {K : Addr → Prop} : rdA (.pointer (some n)) K ↔ K n := by simp [rdA]
theorem rdM_mk {n : Option Nat} {K : Option Nat → Prop} : rdM (.map n) K ↔ K n := by simp [rdM]
theorem rdC_mk {a : Option Addr} {l c : Nat} {K : Option Addr → Nat → Nat → Prop} : rdC (.slice a l c) K ↔ K a l c := ⟨fun ⟨_, _, _, e, h⟩ => by cases e; exact h, fun h => ⟨_, _, _, rfl, h⟩⟩
theorem nn_some {a : Addr} {K : Addr → Prop} : nn (some a) K ↔ K a := Iff.rfl
theorem nn_none {K : Addr → Prop} : nn none K ↔ False := Iff.rfl
theorem br_true {A B : Prop} : br true A B ↔ A := Iff.rfl
theorem br_false {A B : Prop} : br false A B ↔ B := Iff.rfl
theorem br_iff {b : Bool} {A B : Prop} : br b A B ↔ (b = true → A) ∧ (b = false → B) := by cases b <;> simp [br]
theorem br_dec {p : Prop} [Decidable p] {A B : Prop} : br (decide p) A B ↔ (p → A) ∧ (¬ p → B) := by by_cases h : p <;> simp [br, h]
theorem nz_of {b : Int} {A : Prop} (hb : b ≠ 0) (h : A) : nz b A := by
  cases b with
  | ofNat n => cases n with
    | zero => exact absurd rfl hb
    | succ n => exact h
  | negSucc n => exact h
theorem shc_nat {n : Nat} {K : Nat → Prop} : shc (n : Int) K ↔ K n := Iff.rfl
end
theorem callV_of {P : Program} {f : FuncId} {x c args : Array Value} {w : World} {y : Ky} {K : Value → World → Prop} (hf : okFn P f = true) (h : call P f (x ++ args ++ c) w y K) : callV P (.func (.func f) x c) args w y K := .inl ⟨f, x, c, rfl, hf, h⟩
/-- a call by a contract -/
theorem call_of {P : Program} {f : FuncId} {args : Array Value} {w : World} {y : Ky} {K : Value → World → Prop} {R : Ending → World → Prop} (h : Calls P f args w R) (k : ∀ e w', R e w' → exY y fun v => e = .returned v ∧ K v w') : call P f args w y K := Calls.mono h k

/-! integers that fit -/
theorem wrap_i64 {n : Int} (h : -9223372036854775808 ≤ n) (h' : n < 9223372036854775808) : IntKind.wrap .i64 n = n := by
  simp only [IntKind.wrap, IntKind.bits, IntKind.signed]
  simp
  omega
theorem wrap_u64 {n : Int} (h : 0 ≤ n) (h' : n < 18446744073709551616) : IntKind.wrap .u64 n = n := by
  simp only [IntKind.wrap, IntKind.bits, IntKind.signed]
  simp
  omega
theorem wrap_u64_nat (n : Nat) (h : n < 18446744073709551616) : IntKind.wrap .u64 (n : Int) = n := wrap_u64 (by omega) (by omega)
theorem wrap_i64_nat (n : Nat) (h : n < 9223372036854775808) : IntKind.wrap .i64 (n : Int) = n := wrap_i64 (by omega) (by omega)
theorem wrap_u32 {n : Int} (h : 0 ≤ n) (h' : n < 4294967296) : IntKind.wrap .u32 n = n := by
  simp only [IntKind.wrap, IntKind.bits, IntKind.signed]
  simp
  omega
theorem wrap_u16 {n : Int} (h : 0 ≤ n) (h' : n < 65536) : IntKind.wrap .u16 n = n := by
  simp only [IntKind.wrap, IntKind.bits, IntKind.signed]
  simp
  omega
theorem wrap_u8 {n : Int} (h : 0 ≤ n) (h' : n < 256) : IntKind.wrap .u8 n = n := by
  simp only [IntKind.wrap, IntKind.bits, IntKind.signed]
  simp
  omega
theorem wrap_u32_mod (n : Int) : IntKind.wrap .u32 n = n % 4294967296 := by
  simp [IntKind.wrap, IntKind.bits, IntKind.signed]
theorem wrap_u64_mod (n : Int) : IntKind.wrap .u64 n = n % 18446744073709551616 := by
  simp [IntKind.wrap, IntKind.bits, IntKind.signed]
theorem wrap_u16_mod (n : Int) : IntKind.wrap .u16 n = n % 65536 := by
  simp [IntKind.wrap, IntKind.bits, IntKind.signed]
theorem wrap_u8_mod (n : Int) : IntKind.wrap .u8 n = n % 256 := by
  simp [IntKind.wrap, IntKind.bits, IntKind.signed]
end Go.Sh
namespace Go.Sh
open Go
/-! contracts -/
/-- what a call hands back, as 'F.._ok' says it -/
def rt (K : Value → World → Prop) : Ending → World → Prop := fun e w' => ∃ v, e = .returned v ∧ K v w'
/-- a value, and the very world -/
def KR (v : Value) (w : World) : Value → World → Prop := fun u w' => u = v ∧ w' = w
/-- a value, and the world but for draws and new blocks -/
theorem KR.mk (v : Value) (w : World) : KR v w v w := ⟨rfl, rfl⟩
section
variable {P : Program} {f : FuncId} {as : Array Value} {w : World} {R : Ending → World → Prop}
theorem cl {K : Value → World → Prop} (h : Calls P f as w (rt K)) (k : ∀ v w', K v w' → R (.returned v) w') : Calls P f as w R := h.mono fun _ _ ⟨v, he, hk⟩ => he ▸ k v _ hk
theorem clr {v : Value} {w2 : World} (h : Calls P f as w (rt (KR v w2))) (k : R (.returned v) w2) : Calls P f as w R := cl h fun _ _ ⟨hv, hw⟩ => by rw [hv, hw]; exact k
theorem rt_mono {K K' : Value → World → Prop} (h : Calls P f as w (rt K)) (k : ∀ v w', K v w' → K' v w') : Calls P f as w (rt K') := h.mono fun _ _ ⟨v, he, hk⟩ => ⟨v, he, k _ _ hk⟩
end
end Go.Sh
namespace Go.Sh
open Go

def mval : List (Int × Int) → Int → Option Int
  | [], _ => none
  | p :: r, k => if k = p.1 then some p.2 else mval r k
def MRep (kk kv : IntKind) (es : List MapEntry) (l : List (Int × Int)) : Prop :=
  es.map (fun e => (e.key, e.val)) = l.map (fun p => (Value.int kk p.1, Value.int kv p.2))
def MapI (kk kv : IntKind) (w : World) (m : Nat) (f : Int → Option Int) : Prop :=
  ∃ es c l, w.heap[m]? = some (.map es c) ∧ MRep kk kv es.toList l ∧ (l.map Prod.fst).Nodup ∧ (∀ k, mval l k = f k) ∧ MapKept.Stamped es c
def updF (f : Int → Option Int) (k : Int) (v : Option Int) : Int → Option Int := fun j => if j = k then v else f j

theorem MapI.lt {kk kv : IntKind} {w : World} {m : Nat} {f : Int → Option Int} (h : MapI kk kv w m f) : m < w.heap.size := by
  obtain ⟨es, c, l, h, _⟩ := h
  exact lt_of_blk h
theorem MapI.of_blk {kk kv : IntKind} {w w' : World} {m : Nat} {f : Int → Option Int} (h : MapI kk kv w m f) (e : w'.heap[m]? = w.heap[m]?) : MapI kk kv w' m f := by
  obtain ⟨es, c, l, h1, h⟩ := h
  exact ⟨es, c, l, by rw [e]; exact h1, h⟩
theorem MapI.fr {kk kv : IntKind} {w w' : World} {m : Nat} {f : Int → Option Int} {S : Nat → Prop} (h : MapI kk kv w m f) (hf : Fr S w w') (hn : ¬ S m) : MapI kk kv w' m f := h.of_blk (hf.block m h.lt hn)
theorem MapI.ne_cells {kk kv : IntKind} {w : World} {m b : Nat} {f : Int → Option Int} {cs : Array Value} {T : TypeId} {z : Nat × Nat} (h : MapI kk kv w m f) (hb : w.heap[b]? = some (.cells cs T z)) : m ≠ b := by
  obtain ⟨es, c, l, h1, h⟩ := h
  intro e
  subst e
  rw [h1] at hb
  cases hb
theorem MapI.new (kk kv : IntKind) (w : World) : MapI kk kv (w.alloc (.map #[] 0)) w.heap.size fun _ => none :=
  ⟨#[], 0, [], alloc_new w _, rfl, by simp, fun _ => rfl, MapKept.stamped_empty 0⟩

theorem findNow_int {kk kv kd : IntKind} {k : Int} : ∀ {es : List MapEntry} {l : List (Int × Int)} (i : Nat), MRep kk kv es l →
    (mval l k = none ∧ Instr.findNow (.int kd) (.int kk k) es i = some none) ∨
    (∃ j v, mval l k = some v ∧ Instr.findNow (.int kd) (.int kk k) es i = some (some (i + j, .int kv v)) ∧ l[j]? = some (k, v))
  | [], [], i, _ => .inl ⟨rfl, rfl⟩
  | [], _ :: _, _, h => by simp [MRep] at h
  | _ :: _, [], _, h => by simp [MRep] at h
  | e :: es, p :: l, i, h => by
    simp only [MRep, List.map_cons, List.cons.injEq, Prod.mk.injEq] at h
    obtain ⟨⟨h1, h2⟩, h3⟩ := h
    unfold mval Instr.findNow
    simp only [h1, Instr.sameNow, if_true]
    by_cases hk : k = p.1
    · refine .inr ⟨0, p.2, by rw [if_pos hk], ?_, by rw [hk]; rfl⟩
      have : (k == p.1) = true := by simp [hk]
      rw [this, h2]
      rfl
    · rw [if_neg hk]
      have : (k == p.1) = false := by simp [hk]
      rw [this]
      rcases findNow_int (k := k) (kd := kd) (i + 1) h3 with ⟨h, h'⟩ | ⟨j, v, h, h', hj⟩
      · exact .inl ⟨h, h'⟩
      · exact .inr ⟨j + 1, v, h, by rw [h', Nat.add_assoc, Nat.add_comm 1 j], hj⟩

section
variable {P : Program} {w : World} {T kt et : TypeId} {kk kv kd : IntKind} {m : Nat} {f : Int → Option Int} {k v : Int}
theorem look_int (hk : P.underlying kt = some (.int kd)) (hz : (P.info? et).bind (·.zero) = some (.int kv 0)) (hm : MapI kk kv w m f) :
    lookF P kt et (.map (some m)) (.int kk k) false w = some (.int kv ((f k).getD 0)) := by
  obtain ⟨es, c, l, h1, h2, _, h3, _⟩ := hm
  unfold lookF
  simp only [h1, hk, hz]
  rcases findNow_int (k := k) (kd := kd) 0 h2 with ⟨h, h'⟩ | ⟨j, v, h, h', _⟩
  · rw [h', ← h3 k, h]; rfl
  · rw [h', ← h3 k, h]; rfl
theorem look_int_ok (hk : P.underlying kt = some (.int kd)) (hz : (P.info? et).bind (·.zero) = some (.int kv 0)) (hm : MapI kk kv w m f) :
    lookF P kt et (.map (some m)) (.int kk k) true w = some (.tuple #[.int kv ((f k).getD 0), .bool (f k).isSome]) := by
  obtain ⟨es, c, l, h1, h2, _, h3, _⟩ := hm
  unfold lookF
  simp only [h1, hk, hz]
  rcases findNow_int (k := k) (kd := kd) 0 h2 with ⟨h, h'⟩ | ⟨j, v, h, h', _⟩
  · rw [h', ← h3 k, h]; rfl
  · rw [h', ← h3 k, h]; rfl
theorem look_nil (hk : P.underlying kt = some (.int kd)) (hz : (P.info? et).bind (·.zero) = some (.int kv 0)) : lookF P kt et (.map none) (.int kk k) false w = some (.int kv 0) := by
  unfold lookF
  simp only [hk, hz]
  rfl
theorem run_getObj {o : Obj} (h : w.heap[m]? = some o) (hc : ∀ c e z, o ≠ .cells c e z) : (getObj m).run P w = .ok o w := by
  unfold getObj
  cases o <;> first | exact absurd rfl (hc _ _ _) | simp [Sem.run, h]
theorem run_setObj {o o' : Obj} (h : w.heap[m]? = some o') (hc : ∀ c e z, o' ≠ .cells c e z) : (setObj m o).run P w = .ok () (sb w m o) := by
  unfold setObj
  cases o' <;> first | exact absurd rfl (hc _ _ _) | simp [Sem.run, h, sb]
theorem run_findKey_int (hk : P.underlying kt = some (.int kd)) {es : List MapEntry} {r : Option (Nat × Value)} (h : Instr.findNow (.int kd) (.int kk k) es 0 = some r) : (Instr.findKey kt (.int kk k) es).run P w = .ok r w := by
  unfold Instr.findKey
  simp only [Sem.run_bind, run_under hk, Result.andThen_ok, h, Sem.run_pure]
theorem checkKey_int (hk : P.underlying kt = some (.int kd)) (g : Bool) (n : Nat) (x : Value) : (Instr.checkKey g (n + 1) kt x).run P w = .ok () w :=
  run_checkKey (by unfold isIntT; rw [hk]; rfl) g n x
theorem mval_set {l : List (Int × Int)} {j : Nat} {u : Int} (hj : l[j]? = some (k, u)) (hn : (l.map Prod.fst).Nodup) (i : Int) : mval (l.set j (k, v)) i = if i = k then some v else mval l i := by
  induction l generalizing j with
  | nil => simp at hj
  | cons p l ih =>
    cases j with
    | zero =>
      simp only [List.getElem?_cons_zero, Option.some.injEq] at hj
      subst hj
      simp only [List.set_cons_zero, mval]
      by_cases hi : i = k
      · simp [hi]
      · simp [hi]
    | succ j =>
      simp only [List.getElem?_cons_succ] at hj
      simp only [List.map_cons, List.nodup_cons] at hn
      simp only [List.set_cons_succ, mval]
      by_cases hi : i = p.1
      · have hne : i ≠ k := by
          intro e
          refine hn.1 ?_
          rw [← hi, e]
          exact List.mem_map.2 ⟨(k, u), List.mem_of_getElem? hj, rfl⟩
        rw [if_pos hi, if_pos hi, if_neg hne]
      · rw [if_neg hi, if_neg hi]
        exact ih hj hn.2
theorem mval_snoc {l : List (Int × Int)} (h : mval l k = none) (i : Int) : mval (l ++ [(k, v)]) i = if i = k then some v else mval l i := by
  induction l with
  | nil => simp [mval]
  | cons p l ih =>
    simp only [List.cons_append, mval] at h ⊢
    by_cases hk : k = p.1
    · rw [if_pos hk] at h; cases h
    · rw [if_neg hk] at h
      by_cases hi : i = p.1
      · have hne : i ≠ k := by intro e; exact hk (by rw [← e, hi])
        rw [if_pos hi, if_pos hi, if_neg hne]
      · rw [if_neg hi, if_neg hi]; exact ih h
theorem mval_mem {l : List (Int × Int)} (h : k ∈ l.map Prod.fst) : ∃ u, mval l k = some u := by
  induction l with
  | nil => simp at h
  | cons p l ih =>
    simp only [mval]
    by_cases hk : k = p.1
    · exact ⟨p.2, by rw [if_pos hk]⟩
    · rw [if_neg hk]
      simp only [List.map_cons, List.mem_cons] at h
      exact ih (h.resolve_left hk)
theorem mval_erase {l : List (Int × Int)} {j : Nat} {u : Int} (hj : l[j]? = some (k, u)) (hn : (l.map Prod.fst).Nodup) (i : Int) : mval (l.eraseIdx j) i = if i = k then none else mval l i := by
  induction l generalizing j with
  | nil => simp at hj
  | cons p l ih =>
    simp only [List.map_cons, List.nodup_cons] at hn
    cases j with
    | zero =>
      simp only [List.getElem?_cons_zero, Option.some.injEq] at hj
      subst hj
      simp only [List.eraseIdx_zero, List.tail_cons, mval]
      by_cases hi : i = k
      · subst hi
        rw [if_pos rfl]
        cases hm : mval l i with
        | none => rfl
        | some u' =>
          exfalso
          have : ∀ l : List (Int × Int), mval l i = some u' → i ∈ l.map Prod.fst := by
            intro l
            induction l with
            | nil => intro h; cases h
            | cons q l ih =>
              intro h
              simp only [mval] at h
              by_cases hq : i = q.1
              · simp [hq]
              · rw [if_neg hq] at h; simp only [List.map_cons, List.mem_cons]; exact .inr (ih h)
          exact hn.1 (this l hm)
      · simp [hi]
    | succ j =>
      simp only [List.getElem?_cons_succ] at hj
      simp only [List.eraseIdx_cons_succ, mval]
      by_cases hi : i = p.1
      · have hne : i ≠ k := by
          intro e
          refine hn.1 ?_
          rw [← hi, e]
          exact List.mem_map.2 ⟨(k, u), List.mem_of_getElem? hj, rfl⟩
        rw [if_pos hi, if_pos hi, if_neg hne]
      · rw [if_neg hi, if_neg hi]
        exact ih hj hn.2
theorem map_modify {es : Array MapEntry} {j : Nat} {g : MapEntry → MapEntry} : (es.modify j g).toList = es.toList.modify j g := by simp
theorem rep_modify {j : Nat} : ∀ {es : List MapEntry} {l : List (Int × Int)} {u : Int}, MRep kk kv es l → l[j]? = some (k, u) → MRep kk kv (es.modify j fun e => { e with key := .int kk k, val := .int kv v }) (l.set j (k, v)) := by
  intro es l u h hj
  unfold MRep at h ⊢
  apply List.ext_getElem?
  intro i
  have hi := congrArg (·[i]?) h
  simp only [List.getElem?_map] at hi ⊢
  rw [List.getElem?_modify, List.getElem?_set]
  by_cases hij : j = i
  · subst hij
    have hlt := (List.getElem?_eq_some_iff.1 hj).1
    rw [hj] at hi
    simp only [if_true, hlt]
    cases he : es[j]? with
    | none => rw [he] at hi; cases hi
    | some e => simp
  · simp only [hij, if_false]
    cases he : es[i]? with
    | none => rw [he] at hi; simpa using hi
    | some e => rw [he] at hi; simpa using hi
theorem map_erase {α β : Type} (g : α → β) : ∀ (l : List α) (j : Nat), (l.eraseIdx j).map g = (l.map g).eraseIdx j
  | [], _ => rfl
  | _ :: _, 0 => rfl
  | a :: l, j + 1 => by simp only [List.eraseIdx_cons_succ, List.map_cons, map_erase g l j]
theorem rep_erase {j : Nat} {es : List MapEntry} {l : List (Int × Int)} (h : MRep kk kv es l) : MRep kk kv (es.eraseIdx j) (l.eraseIdx j) := by
  unfold MRep at h ⊢
  rw [map_erase, map_erase, h]
theorem rep_key {es : List MapEntry} {l : List (Int × Int)} {j : Nat} {e : MapEntry} (h : MRep kk kv es l) (he : es[j]? = some e) : ∃ q, l[j]? = some q ∧ e.key = .int kk q.1 := by
  have hi := congrArg (·[j]?) h
  simp only [List.getElem?_map, he, Option.map_some] at hi
  cases hq : l[j]? with
  | none => rw [hq] at hi; cases hi
  | some q =>
    rw [hq] at hi
    simp only [Option.map_some, Option.some.injEq, Prod.mk.injEq] at hi
    exact ⟨q, rfl, hi.1⟩
theorem store_int (hT : P.underlying T = some (.map kt et)) (hk : P.underlying kt = some (.int kd)) (hm : MapI kk kv w m f) :
    ∃ o, (Instr.mapUpdate T (.map (some m)) (.int kk k) (.int kv v)).run P w = .ok () (sb w m o) ∧ MapI kk kv (sb w m o) m (updF f k (some v)) := by
  obtain ⟨es, c, l, h1, h2, hnd, h3, hstp⟩ := hm
  have hck : (Instr.checkKey false 10000 kt (.int kk k)).run P w = .ok () w := checkKey_int hk false 9999 _
  have hg : (getObj m).run P w = .ok (.map es c) w := run_getObj h1 (fun _ _ _ e => by cases e)
  unfold Instr.mapUpdate
  simp only [Sem.run_bind, run_under hT, Result.andThen_ok, hg, hck]
  rcases findNow_int (k := k) (kd := kd) 0 h2 with ⟨h, h'⟩ | ⟨j, u, h, h', hj⟩
  · rw [run_findKey_int hk h']
    simp only [Result.andThen_ok]
    refine ⟨_, run_setObj h1 (fun _ _ _ e => by cases e), _, _, l ++ [(k, v)], sb_same h1, ?_, ?_, fun i => ?_, MapKept.stamped_push hstp fun x hx e => ?_⟩
    · unfold MRep at h2 ⊢; simp [h2]
    · rw [List.map_append, List.nodup_append]
      refine ⟨hnd, by simp, fun a ha b hb e => ?_⟩
      simp at hb
      subst hb
      subst e
      obtain ⟨u, hu⟩ := mval_mem ha
      rw [h] at hu
      cases hu
    · rw [mval_snoc h, h3]; rfl
    · obtain ⟨j, hj⟩ := List.getElem?_of_mem hx
      obtain ⟨q, hq, e1⟩ := rep_key h2 hj
      rw [e1] at e
      injection e with _ e
      obtain ⟨u, hu⟩ := mval_mem (k := k) (List.mem_map.2 ⟨q, List.mem_of_getElem? hq, e⟩)
      rw [h] at hu
      cases hu
  · rw [run_findKey_int hk h']
    simp only [Result.andThen_ok, Nat.zero_add]
    have hkey : (((es[j]?).map (·.key)).getD (.int kk k)) = .int kk k := by
      have := congrArg (·[j]?) h2
      simp only [List.getElem?_map, hj, Option.map_some, Array.getElem?_toList] at this
      cases he : es[j]? with
      | none => rfl
      | some e =>
        rw [he] at this
        simp only [Option.map_some, Option.some.injEq, Prod.mk.injEq] at this
        simp [this.1]
    have hst : (Instr.keyThatStays (((es[j]?).map (·.key)).getD (.int kk k)) (.int kk k)).run P w = .ok (.int kk k) w := by
      rw [hkey]
      unfold Instr.keyThatStays
      have : Instr.sameBits 10000 (.int kk k) (.int kk k) = true := by
        have : ∀ n, Instr.sameBits n (.int kk k) (.int kk k) = true := fun n => by cases n <;> simp [Instr.sameBits]
        exact this 10000
      rw [if_pos this]
      rfl
    rw [Sem.run_bind, hst]
    simp only [Result.andThen_ok]
    refine ⟨_, run_setObj h1 (fun _ _ _ e => by cases e), _, _, l.set j (k, v), sb_same h1, ?_, ?_, fun i => ?_, MapKept.stamped_modify hstp _ _ (fun _ _ => rfl) fun e _ he => ?_⟩
    · rw [map_modify]; exact rep_modify h2 hj
    · have : (l.set j (k, v)).map Prod.fst = l.map Prod.fst := by
        rw [List.map_set]
        refine List.ext_getElem? fun i => ?_
        rw [List.getElem?_set]
        by_cases hij : j = i
        · subst hij
          obtain ⟨hlt, he⟩ := List.getElem?_eq_some_iff.1 hj
          simp [hlt, he]
        · simp [hij]
      rw [this]; exact hnd
    · rw [mval_set hj hnd, h3]; rfl
    · obtain ⟨q, hq, e1⟩ := rep_key h2 (by simpa using he)
      rw [hj] at hq
      cases hq
      exact e1.symm
theorem delete_int {ats : Array TypeId} {ty : TypeId} (ha : ats[0]? = some T) (hT : P.underlying T = some (.map kt et)) (hk : P.underlying kt = some (.int kd)) (hm : MapI kk kv w m f) :
    ∃ o, (Builtin.delete_ ats ty #[.map (some m), .int kk k]).run P w = .ok (.tuple #[]) (sb w m o) ∧ MapI kk kv (sb w m o) m (updF f k none) := by
  obtain ⟨es, c, l, h1, h2, hnd, h3, hstp⟩ := hm
  have hck : ∀ g, (Instr.checkKey g 10000 kt (.int kk k)).run P w = .ok () w := fun g => checkKey_int hk g 9999 _
  have hg : (getObj m).run P w = .ok (.map es c) w := run_getObj h1 (fun _ _ _ e => by cases e)
  unfold Builtin.delete_
  simp only [ha, List.getElem?_toArray, List.getElem?_cons_zero, List.getElem?_cons_succ, Sem.run_bind, run_under hT, Result.andThen_ok, hg, hck]
  rcases findNow_int (k := k) (kd := kd) 0 h2 with ⟨h, h'⟩ | ⟨j, u, h, h', hj⟩
  · rw [run_findKey_int hk h']
    simp only [Result.andThen_ok]
    rw [Sem.run_bind, run_setObj h1 (fun _ _ _ e => by cases e)]
    simp only [Result.andThen_ok, Sem.run_pure]
    refine ⟨_, rfl, _, _, l, sb_same h1, h2, hnd, fun i => ?_, hstp⟩
    rw [h3]
    unfold updF
    by_cases hi : i = k
    · rw [if_pos hi, hi, ← h3, h]
    · rw [if_neg hi]
  · rw [run_findKey_int hk h']
    simp only [Result.andThen_ok, Nat.zero_add]
    rw [Sem.run_bind, run_setObj h1 (fun _ _ _ e => by cases e)]
    simp only [Result.andThen_ok, Sem.run_pure]
    refine ⟨_, rfl, _, _, l.eraseIdx j, sb_same h1, ?_, ?_, fun i => ?_, MapKept.stamped_erase hstp j⟩
    · rw [Array.toList_eraseIdxIfInBounds]; exact rep_erase h2
    · rw [map_erase]; exact hnd.sublist (List.eraseIdx_sublist _ _)
    · rw [mval_erase hj hnd, h3]; rfl
end
end Go.Sh
