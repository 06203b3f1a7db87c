/- Own text: part of the shallow reading of the code and of the contracts that are proved over it. -/
import Derived.Test.YtjcigidbnpmeaaaDoorSpA
import Derived.Test.YtjcigidbnpmeaaaDoorSpP
namespace Go.Proofs.YtjcigidbnpmeaaaDoor
open Go Go.Sh Go.Sp

def tabL : List Nat := [0, 1, 56, 2, 57, 49, 28, 3, 61, 58, 42, 50, 38, 29, 17, 4, 62, 47, 59, 36, 45, 43, 51, 22, 53, 39, 33, 30, 24, 18, 12, 5, 63, 55, 48, 27, 60, 41, 37, 16, 46, 35, 44, 21, 52, 32, 23, 11, 54, 26, 40, 15, 34, 20, 31, 10, 25, 14, 19, 9, 13, 8, 7, 6]
def tabV : Array Value := (tabL.map fun (n : Nat) => Value.int .u8 (n : Int)).toArray
/-- the library's table lies where it lies -/
def TB (w : World) : Prop := ∃ T z, w.heap[0]? = some (.cells tabV T z)
theorem TB.fr {w w' : World} {S : Nat → Prop} (h : TB w) (hf : Fr S w w') (hn : ¬ S 0) : TB w' := by
  obtain ⟨T, z, h⟩ := h
  exact ⟨T, z, hf.blk h hn⟩
theorem TB.ne {w : World} {b : Nat} {cs : Array Value} {T : TypeId} {z : Nat × Nat} (h : TB w) (hb : w.heap[b]? = some (.cells cs T z)) (hs : cs.size ≠ 64) : b ≠ 0 := by
  intro e
  subst e
  obtain ⟨T', z', h⟩ := h
  rw [h] at hb
  cases hb
  exact hs (by decide +kernel)
theorem TB.ne_map {w : World} {m : Nat} {kk kv : IntKind} {f : Int → Option Int} (h : TB w) (hm : MapI kk kv w m f) : m ≠ 0 := by
  obtain ⟨T', z', h⟩ := h
  exact hm.ne_cells h
def tabE (j : Nat) : Int := Int.fdiv (((2 ^ j : Nat) : Int) * 285870213051353865 % 18446744073709551616) (2 ^ 58)
theorem tab_all : ∀ j, j < 64 → 0 ≤ tabE j ∧ tabE j < 64 ∧ tabL[(tabE j).toNat]? = some j := by decide +kernel
theorem c51 {x j : Nat} (hx : x < 18446744073709551616) (h : Nat.testBit x j = true) (hl : ∀ k, k < j → Nat.testBit x k = false) {w : World} (ht : TB w) :
    Calls Tryd.prog 51 #[.int .u64 (x : Int)] w (rt (KR (.int .i64 (j : Int)) w)) := by
  refine F51_ok ?_
  have hx0 : x ≠ 0 := by intro e; subst e; simp at h
  have hj : j < 64 := by
    rcases Nat.lt_or_ge j 64 with h' | h'
    · exact h'
    · have := Nat.testBit_lt_two_pow (Nat.lt_of_lt_of_le (by simpa using hx : x < 2 ^ 64) (Nat.pow_le_pow_right (by omega) h'))
      rw [h] at this
      cases this
  have h1 : IntKind.wrap .u64 (0 - (x : Int)) = ((2 ^ 64 - x : Nat) : Int) := by rw [wrap_u64_mod]; simp only [Nat.reducePow]; omega
  have h2 : bitI .and .u64 (x : Int) ((2 ^ 64 - x : Nat) : Int) = ((2 ^ j : Nat) : Int) := by
    rw [bit_and hx (by simp only [Nat.reducePow]; omega), and_neg (by simpa using hx) h hl]
  have h3 : (min 58 (IntKind.bits .u64)) = 58 := by decide
  obtain ⟨k0, k1, k2⟩ := tab_all j hj
  have he : Int.fdiv (IntKind.wrap .u64 (((2 ^ j : Nat) : Int) * 285870213051353865)) (2 ^ 58) = tabE j := by rw [wrap_u64_mod]; rfl
  obtain ⟨T, z, ht⟩ := ht
  unfold F51
  simp only [rdI_mk, h1, h2, h3, he, br_iff]
  refine ⟨fun h0 => ?_, fun _ => ⟨⟨k0, k1⟩, ?_⟩⟩
  · simp at h0; omega
  · rw [add_mk]
    refine ldI_at ht (n := (j : Int)) ?_ ?_
    · unfold tabV
      simp only [Nat.zero_add, Nat.mul_one, List.getElem?_toArray, List.getElem?_map, k2, Option.map_some]
    · rw [wrap_i64 (by omega) (by omega)]; exact KR.mk _ _
theorem c52 (p : Value) (d : Nat) (hd : d < 9223372036854775808) (w : World) : Calls Tryd.prog 52 #[p, .int .i64 (d : Int)] w (rt (KR (.tuple #[.int .i64 ((d / 64 : Nat) : Int), .int .u64 ((2 ^ (d % 64) : Nat) : Int)]) w.drew)) := by
  refine F52_ok ?_
  have h1 : Int.tdiv (d : Int) 64 = ((d / 64 : Nat) : Int) := by rw [Int.tdiv_eq_ediv_of_nonneg (by omega)]; omega
  have h2 : Int.tmod (d : Int) 64 = ((d % 64 : Nat) : Int) := by rw [Int.tmod_eq_emod_of_nonneg (by omega)]; omega
  have h3 : min (d % 64) (IntKind.bits .u64) = d % 64 := by simp only [IntKind.bits]; omega
  have h4 : (2 : Nat) ^ (d % 64) < 18446744073709551616 := by
    have : (2 : Nat) ^ (d % 64) < 2 ^ 64 := Nat.pow_lt_pow_right (by omega) (Nat.mod_lt _ (by omega))
    simpa using this
  unfold F52 drw
  simp only [rdI_mk, h1, h2, shc_nat, h3]
  rw [wrap_i64 (by omega) (by omega), show (1 : Int) * 2 ^ (d % 64) = ((2 ^ (d % 64) : Nat) : Int) by simp, wrap_u64_nat _ h4]
  exact KR.mk _ _

/-- a field of a set: the block of cells (whatever lies behind the two), the map's block, the distances -/
structure Fld (w : World) (b m : Nat) (cs : Array Value) (T : TypeId) (S : List Nat) : Prop where
  blk : w.heap[b]? = some (.cells cs T (0, 0))
  words : cs[0]? = some (.map (some m))
  many : cs[1]? = some (.int .i64 (S.length : Int))
  map : ∃ f, MapI .i64 .u64 w m f ∧ ∀ i : Nat, (f (i : Int)).getD 0 = ((word S i : Nat) : Int)
theorem Fld.fr {w w' : World} {b m : Nat} {cs : Array Value} {T : TypeId} {S : List Nat} {X : Nat → Prop} (h : Fld w b m cs T S) (hf : Fr X w w') (hb : ¬ X b) (hm : ¬ X m) : Fld w' b m cs T S := by
  obtain ⟨h1, h2, h3, f, h4, h5⟩ := h
  exact ⟨hf.blk h1 hb, h2, h3, f, h4.fr hf hm, h5⟩
theorem Fld.drew {w : World} {b m : Nat} {cs : Array Value} {T : TypeId} {S : List Nat} (h : Fld w b m cs T S) : Fld w.drew b m cs T S := h.fr (X := fun _ => False) (Fr.refl w).drew (fun h => h) (fun h => h)
theorem Fld.ne {w : World} {b m : Nat} {cs : Array Value} {T : TypeId} {S : List Nat} (h : Fld w b m cs T S) : m ≠ b := by
  obtain ⟨h1, h2, h3, f, h4, h5⟩ := h
  exact h4.ne_cells h1
theorem u3 : Tryd.prog.underlying 3 = some (.int .i64) := by kernel_rfl
theorem u63 : Tryd.prog.underlying 63 = some (.map 3 78) := by kernel_rfl
theorem z78 : (Tryd.prog.info? 78).bind (·.zero) = some (.int .u64 0) := by kernel_rfl

theorem c47 {w : World} {b m d : Nat} {cs : Array Value} {T : TypeId} {S : List Nat} (h : Fld w b m cs T S) (hd : d < 9223372036854775808) :
    Calls Tryd.prog 47 #[.pointer (some ⟨b, 0, none⟩), .int .i64 (d : Int)] w (rt (KR (.bool (decide (d ∈ S))) w.drew)) := by
  refine F47_ok ?_
  unfold F47
  simp only [rdP_mk, rdI_mk, nn_some]
  refine clr (c52 _ d hd w) ⟨_, _, rfl, ?_⟩
  obtain ⟨h1, h2, h3, f, h4, h5⟩ := h.drew
  rw [add_mk]
  refine ldM_at h1 h2 ⟨_, look_int u3 z78 h4, ?_⟩
  have h4 : (2 : Nat) ^ (d % 64) < 18446744073709551616 := by
    have : (2 : Nat) ^ (d % 64) < 2 ^ 64 := Nat.pow_lt_pow_right (by omega) (Nat.mod_lt _ (by omega))
    simpa using this
  rw [h5, bit_and (word_lt S _) h4]
  have he : (((word S (d / 64) &&& 2 ^ (d % 64) : Nat) : Int) != 0) = decide (d ∈ S) := by
    rw [Bool.eq_iff_iff]
    simp only [bne_iff_ne, ne_eq, decide_eq_true_eq]
    rw [← word_bit S d, ← and_pow_ne]
    omega
  rw [he]
  exact KR.mk _ _
end Go.Proofs.YtjcigidbnpmeaaaDoor
