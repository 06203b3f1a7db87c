/-
  Small laws for contracts over shallow texts: worlds block by block; reading and writing a cell of a block that is known whole; what a call leaves alone; maps from integers to integers.
-/
import Derived.Test.YtaflmpbeonoilaaShG
namespace Go.Sh
open Go

/-! worlds -/
/-- a block laid anew -/
def sb (w : World) (b : Nat) (o : Obj) : World := { w with heap := w.heap.setIfInBounds b o }
theorem lt_of_blk {w : World} {b : Nat} {o : Obj} (h : w.heap[b]? = some o) : b < w.heap.size := (Array.getElem?_eq_some_iff.1 h).1
@[simp] theorem sb_size (w : World) (b : Nat) (o : Obj) : (sb w b o).heap.size = w.heap.size := by simp [sb]
theorem sb_same {w : World} {b : Nat} {o o' : Obj} (h : w.heap[b]? = some o') : (sb w b o).heap[b]? = some o := by
  have := lt_of_blk h
  simp [sb, this]
theorem sb_other {w : World} {b c : Nat} {o : Obj} (h : c ≠ b) : (sb w b o).heap[c]? = w.heap[c]? := by
  simp [sb, Array.getElem?_setIfInBounds_ne (Ne.symm h)]
theorem alloc_new (w : World) (o : Obj) : (w.alloc o).heap[w.heap.size]? = some o := by
  show (w.heap.push o)[w.heap.size]? = some o
  simp
theorem alloc_old {w : World} {o : Obj} {c : Nat} (h : c < w.heap.size) : (w.alloc o).heap[c]? = w.heap[c]? := RowKit.Below.heap_alloc w o c h
theorem alloc_blk {w : World} {o o' : Obj} {c : Nat} (h : w.heap[c]? = some o') : (w.alloc o).heap[c]? = some o' := by rw [alloc_old (lt_of_blk h)]; exact h
@[simp] theorem drew_heap (w : World) : w.drew.heap = w.heap := rfl

/-- what is the same in two worlds but for blocks in S: the streams, every block of old that is not in S; no block is gone -/
structure Fr (S : Nat → Prop) (w w' : World) : Prop where
  os : w'.os = w.os
  tape : w'.tape = w.tape
  output : w'.output = w.output
  size : w.heap.size ≤ w'.heap.size
  block : ∀ k, k < w.heap.size → ¬ S k → w'.heap[k]? = w.heap[k]?
theorem Fr.refl {S : Nat → Prop} (w : World) : Fr S w w := ⟨rfl, rfl, rfl, Nat.le_refl _, fun _ _ _ => rfl⟩
theorem Fr.trans {S S' : Nat → Prop} {a b c : World} (h : Fr S a b) (k : Fr S' b c) (hs : ∀ i, i < a.heap.size → S' i → S i) : Fr S a c :=
  ⟨k.os.trans h.os, k.tape.trans h.tape, k.output.trans h.output, Nat.le_trans h.size k.size, fun i hi hn => (k.block i (Nat.lt_of_lt_of_le hi h.size) fun x => hn (hs i hi x)).trans (h.block i hi hn)⟩
theorem Fr.mono {S S' : Nat → Prop} {a b : World} (h : Fr S a b) (hs : ∀ i, i < a.heap.size → S i → S' i) : Fr S' a b :=
  ⟨h.os, h.tape, h.output, h.size, fun i hi hn => h.block i hi fun x => hn (hs i hi x)⟩
theorem Fr.alloc {S : Nat → Prop} {a w : World} (h : Fr S a w) (o : Obj) : Fr S a (w.alloc o) :=
  ⟨h.os, h.tape, h.output, by have := h.size; simp; omega, fun i hi hn => by rw [alloc_old (by have := h.size; omega)]; exact h.block i hi hn⟩
theorem Fr.drew {S : Nat → Prop} {a w : World} (h : Fr S a w) : Fr S a w.drew := ⟨h.os, h.tape, h.output, h.size, h.block⟩
theorem Fr.sb {S : Nat → Prop} {a w : World} (h : Fr S a w) {b : Nat} {o : Obj} (hb : b < a.heap.size → S b) : Fr S a (Sh.sb w b o) :=
  ⟨h.os, h.tape, h.output, by have := h.size; simpa using this, fun i hi hn => by rw [sb_other (fun e => hn (by subst e; exact hb hi))]; exact h.block i hi hn⟩
theorem Fr.blk {S : Nat → Prop} {a w : World} (h : Fr S a w) {c : Nat} {o : Obj} (hc : a.heap[c]? = some o) (hn : ¬ S c) : w.heap[c]? = some o := by
  rw [h.block c (lt_of_blk hc) hn]; exact hc
theorem Fr.below {S : Nat → Prop} {a w : World} (h : Fr S a w) {B : Nat} (hB : B ≤ a.heap.size) (hs : ∀ i, S i → B ≤ i) : RowKit.Below B a w :=
  ⟨h.os, h.tape, h.output, h.size, fun k hk => h.block k (by omega) fun x => by have := hs k x; omega⟩

/-! cells of a block that is known -/
section
variable {w : World} {b o : Nat} {cs : Array Value} {T : TypeId} {z : Nat × Nat}
@[simp] theorem add_mk (b o n : Nat) : (Addr.mk b o none).add n = Addr.mk b (o + n) none := by
  unfold Addr.add
  split
  · rename_i h; subst h; rfl
  · rfl
theorem cell_at (h : w.heap[b]? = some (.cells cs T z)) : w.cell? (Addr.mk b o none) = cs[o]? := by simp [World.cell?, h]
theorem ldI_at {k : IntKind} {n : Int} {K : Int → Prop} (h : w.heap[b]? = some (.cells cs T z)) (hv : cs[o]? = some (.int k n)) (hk : K n) : ldI k (Addr.mk b o none) w K := ⟨n, by rw [cell_at h, hv], hk⟩
theorem ldB_at {n : Bool} {K : Bool → Prop} (h : w.heap[b]? = some (.cells cs T z)) (hv : cs[o]? = some (.bool n)) (hk : K n) : ldB (Addr.mk b o none) w K := ⟨n, by rw [cell_at h, hv], hk⟩
theorem ldS_at {n : ByteArray} {K : ByteArray → Prop} (h : w.heap[b]? = some (.cells cs T z)) (hv : cs[o]? = some (.string n)) (hk : K n) : ldS (Addr.mk b o none) w K := ⟨n, by rw [cell_at h, hv], hk⟩
theorem ldP_at {n : Option Addr} {K : Option Addr → Prop} (h : w.heap[b]? = some (.cells cs T z)) (hv : cs[o]? = some (.pointer n)) (hk : K n) : ldP (Addr.mk b o none) w K := ⟨n, by rw [cell_at h, hv], hk⟩
theorem ldM_at {n : Option Nat} {K : Option Nat → Prop} (h : w.heap[b]? = some (.cells cs T z)) (hv : cs[o]? = some (.map n)) (hk : K n) : ldM (Addr.mk b o none) w K := ⟨n, by rw [cell_at h, hv], hk⟩
theorem ldV_at {n : Value} {K : Value → Prop} (h : w.heap[b]? = some (.cells cs T z)) (hv : cs[o]? = some n) (hk : K n) : ldV (Addr.mk b o none) w K := ⟨n, by rw [cell_at h, hv], hk⟩
theorem ldC_at {a : Option Addr} {l c : Nat} {K : Option Addr → Nat → Nat → Prop} (h : w.heap[b]? = some (.cells cs T z)) (hv : cs[o]? = some (.slice a l c)) (hk : K a l c) : ldC (Addr.mk b o none) w K := ⟨a, l, c, by rw [cell_at h, hv], hk⟩
theorem setCell_sb {v : Value} (h : w.heap[b]? = some (.cells cs T z)) : w.setCell (Addr.mk b o none) v = sb w b (.cells (cs.setIfInBounds o v) T z) := by
  unfold World.setCell sb
  congr 1
  apply Array.ext_getElem?
  intro i
  rw [Array.getElem?_modify]
  by_cases hi : b = i
  · subst hi
    have := lt_of_blk h
    rw [if_pos rfl, h]
    simp [this]
  · rw [if_neg hi, Array.getElem?_setIfInBounds_ne hi]
theorem stc_at {v : Value} {K : World → Prop} (h : w.heap[b]? = some (.cells cs T (0, 0))) (ho : o < cs.size) (hk : K (sb w b (.cells (cs.setIfInBounds o v) T (0, 0)))) : stc (Addr.mk b o none) v w K := by
  refine ⟨⟨?_, ?_⟩, ?_⟩
  · rw [cell_at h]; simp [ho]
  · simp [World.frozen?, h]
  · rw [setCell_sb h]; exact hk
end

/-! readers on what is written out -/
section
variable {K : Prop}
theorem rdI_mk {k : IntKind} {n : Int} {K : Int → Prop} : rdI k (.int k n) K ↔ K n := by simp [rdI]
theorem rdB_mk {n : Bool} {K : Bool → Prop} : rdB (.bool n) K ↔ K n := by simp [rdB]
theorem rdS_mk {n : ByteArray} {K : ByteArray → Prop} : rdS (.string n) K ↔ K n := by simp [rdS]
theorem rdP_mk {n : Option Addr} {K : Option Addr → Prop} : rdP (.pointer n) K ↔ K n := by simp [rdP]
theorem rdA_mk {n : Addr} {K : Addr → Prop} : rdA (.pointer (some n)) K ↔ K n := by simp [rdA]
theorem rdM_mk {n : Option Nat} {K : Option Nat → Prop} : rdM (.map n) K ↔ K n := by simp [rdM]
theorem rdC_mk {a : Option Addr} {l c : Nat} {K : Option Addr → Nat → Nat → Prop} : rdC (.slice a l c) K ↔ K a l c := ⟨fun ⟨_, _, _, e, h⟩ => by cases e; exact h, fun h => ⟨_, _, _, rfl, h⟩⟩
theorem nn_some {a : Addr} {K : Addr → Prop} : nn (some a) K ↔ K a := Iff.rfl
theorem nn_none {K : Addr → Prop} : nn none K ↔ False := Iff.rfl
theorem br_true {A B : Prop} : br true A B ↔ A := Iff.rfl
theorem br_false {A B : Prop} : br false A B ↔ B := Iff.rfl
theorem br_iff {b : Bool} {A B : Prop} : br b A B ↔ (b = true → A) ∧ (b = false → B) := by cases b <;> simp [br]
theorem br_dec {p : Prop} [Decidable p] {A B : Prop} : br (decide p) A B ↔ (p → A) ∧ (¬ p → B) := by by_cases h : p <;> simp [br, h]
theorem nz_of {b : Int} {A : Prop} (hb : b ≠ 0) (h : A) : nz b A := by
  cases b with
  | ofNat n => cases n with
    | zero => exact absurd rfl hb
    | succ n => exact h
  | negSucc n => exact h
theorem shc_nat {n : Nat} {K : Nat → Prop} : shc (n : Int) K ↔ K n := Iff.rfl
end
theorem callV_of {P : Program} {f : FuncId} {x c args : Array Value} {w : World} {y : Ky} {K : Value → World → Prop} (hf : okFn P f = true) (h : call P f (x ++ args ++ c) w y K) : callV P (.func (.func f) x c) args w y K := .inl ⟨f, x, c, rfl, hf, h⟩
/-- a call by a contract -/
theorem call_of {P : Program} {f : FuncId} {args : Array Value} {w : World} {y : Ky} {K : Value → World → Prop} {R : Ending → World → Prop} (h : Calls P f args w R) (k : ∀ e w', R e w' → exY y fun v => e = .returned v ∧ K v w') : call P f args w y K := Calls.mono h k

/-! integers that fit -/
theorem wrap_i64 {n : Int} (h : -9223372036854775808 ≤ n) (h' : n < 9223372036854775808) : IntKind.wrap .i64 n = n := by
  simp only [IntKind.wrap, IntKind.bits, IntKind.signed]
  simp
  omega
theorem wrap_u64 {n : Int} (h : 0 ≤ n) (h' : n < 18446744073709551616) : IntKind.wrap .u64 n = n := by
  simp only [IntKind.wrap, IntKind.bits, IntKind.signed]
  simp
  omega
theorem wrap_u64_nat (n : Nat) (h : n < 18446744073709551616) : IntKind.wrap .u64 (n : Int) = n := wrap_u64 (by omega) (by omega)
theorem wrap_i64_nat (n : Nat) (h : n < 9223372036854775808) : IntKind.wrap .i64 (n : Int) = n := wrap_i64 (by omega) (by omega)
theorem wrap_u32 {n : Int} (h : 0 ≤ n) (h' : n < 4294967296) : IntKind.wrap .u32 n = n := by
  simp only [IntKind.wrap, IntKind.bits, IntKind.signed]
  simp
  omega
theorem wrap_u16 {n : Int} (h : 0 ≤ n) (h' : n < 65536) : IntKind.wrap .u16 n = n := by
  simp only [IntKind.wrap, IntKind.bits, IntKind.signed]
  simp
  omega
theorem wrap_u8 {n : Int} (h : 0 ≤ n) (h' : n < 256) : IntKind.wrap .u8 n = n := by
  simp only [IntKind.wrap, IntKind.bits, IntKind.signed]
  simp
  omega
theorem wrap_u32_mod (n : Int) : IntKind.wrap .u32 n = n % 4294967296 := by
  simp [IntKind.wrap, IntKind.bits, IntKind.signed]
theorem wrap_u64_mod (n : Int) : IntKind.wrap .u64 n = n % 18446744073709551616 := by
  simp [IntKind.wrap, IntKind.bits, IntKind.signed]
theorem wrap_u16_mod (n : Int) : IntKind.wrap .u16 n = n % 65536 := by
  simp [IntKind.wrap, IntKind.bits, IntKind.signed]
theorem wrap_u8_mod (n : Int) : IntKind.wrap .u8 n = n % 256 := by
  simp [IntKind.wrap, IntKind.bits, IntKind.signed]
end Go.Sh
namespace Go.Sh
open Go
/-! contracts -/
/-- what a call hands back, as 'F.._ok' says it -/
def rt (K : Value → World → Prop) : Ending → World → Prop := fun e w' => ∃ v, e = .returned v ∧ K v w'
/-- a value, and the very world -/
def KR (v : Value) (w : World) : Value → World → Prop := fun u w' => u = v ∧ w' = w
/-- a value, and the world but for draws and new blocks -/
theorem KR.mk (v : Value) (w : World) : KR v w v w := ⟨rfl, rfl⟩
section
variable {P : Program} {f : FuncId} {as : Array Value} {w : World} {R : Ending → World → Prop}
theorem cl {K : Value → World → Prop} (h : Calls P f as w (rt K)) (k : ∀ v w', K v w' → R (.returned v) w') : Calls P f as w R := h.mono fun _ _ ⟨v, he, hk⟩ => he ▸ k v _ hk
theorem clr {v : Value} {w2 : World} (h : Calls P f as w (rt (KR v w2))) (k : R (.returned v) w2) : Calls P f as w R := cl h fun _ _ ⟨hv, hw⟩ => by rw [hv, hw]; exact k
theorem rt_mono {K K' : Value → World → Prop} (h : Calls P f as w (rt K)) (k : ∀ v w', K v w' → K' v w') : Calls P f as w (rt K') := h.mono fun _ _ ⟨v, he, hk⟩ => ⟨v, he, k _ _ hk⟩
end
end Go.Sh
