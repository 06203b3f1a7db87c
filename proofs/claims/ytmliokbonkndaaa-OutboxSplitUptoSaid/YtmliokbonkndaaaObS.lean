/-
  Numbers that wrap.
-/
import Derived.Test.YtmliokbonkndaaaObF
namespace Go.Proofs.Ytmliokbonkndaaa
open Go Go.Sh

/-- the distance of two numbers that wrap -/
def sd (a b : Int) : Int := if (b - a) % 4294967296 ≥ 2147483648 then (b - a) % 4294967296 - 4294967296 else (b - a) % 4294967296
theorem sd_range (a b : Int) : -2147483648 ≤ sd a b ∧ sd a b < 2147483648 := by unfold sd; split <;> omega
theorem s62 (a b : Int) (w : World) : Calls Try.prog 62 #[.int .u32 a, .int .u32 b] w (rt (KR (.int .i64 (sd a b)) w)) := by
  refine F62_ok ?_
  have hc : bitI .xor .u32 (if IntKind.signed .u32 = true then -1 else IntKind.max .u32) (IntKind.wrap .u32 0) = 4294967295 := by decide +kernel
  have h1 : IntKind.wrap .u32 (Int.tdiv 4294967295 2) = 2147483647 := by decide +kernel
  have h2 : IntKind.wrap .i64 (IntKind.wrap .i64 2147483647 + 1) = 2147483648 := by decide +kernel
  have h3 : IntKind.wrap .i64 (2 * 2147483648) = 4294967296 := by decide +kernel
  have h4 : IntKind.wrap .i64 (IntKind.wrap .u32 (b - a)) = (b - a) % 4294967296 := by rw [wrap_u32_mod]; exact wrap_i64 (by omega) (by omega)
  unfold F62
  simp only [rdI_mk, hc, h1, h2, h3, h4, br_dec]
  unfold sd
  refine ⟨fun h => ?_, fun h => ?_⟩
  · rw [wrap_i64 (by omega) (by omega), if_pos h]; exact KR.mk _ _
  · rw [if_neg h]; exact KR.mk _ _
theorem s37 (a b : Int) (w : World) : Calls Try.prog 37 #[.int .u32 a, .int .u32 b] w (rt (KR (.int .i64 (sd a b)) w)) := by
  refine F37_ok ?_
  unfold F37
  simp only [rdI_mk]
  exact clr (s62 a b w) ⟨_, rfl, KR.mk _ _⟩
theorem s79 (a b : Int) (w : World) (ha : 0 ≤ a) (ha' : a < 4294967296) (hb : 0 ≤ b) (hb' : b < 4294967296) : Calls Try.prog 79 #[.int .i64 a, .int .i64 b, .int .i64 4294967296] w (rt (KR (.int .i64 (sd a b)) w)) := by
  refine F79_ok ?_
  have h1 : IntKind.wrap .i64 (b - a) = b - a := wrap_i64 (by omega) (by omega)
  have h2 : IntKind.wrap .i64 (Int.tdiv 4294967296 2) = 2147483648 := by decide +kernel
  have h3 : (b - a).tmod 4294967296 = if 0 ≤ b - a then (b - a) % 4294967296 else -((-(b - a)) % 4294967296) := by
    split
    · exact Int.tmod_eq_emod_of_nonneg ‹_›
    · have : (b - a) = -(-(b - a)) := by omega
      rw [this, Int.neg_tmod, Int.tmod_eq_emod_of_nonneg (by omega)]; simp
  unfold F79
  simp only [rdI_mk, h1, h2, br_dec]
  refine nz_of (by decide) ?_
  unfold sd
  rw [h3]
  by_cases h0 : 0 ≤ b - a
  · rw [if_pos h0]
    refine ⟨fun h => by omega, fun _ => ⟨fun h => ?_, fun h => ?_⟩⟩
    · rw [wrap_i64 (by omega) (by omega), if_pos h]; exact KR.mk _ _
    · rw [if_neg h]; exact KR.mk _ _
  · rw [if_neg h0]
    have h5 : (b - a) % 4294967296 = b - a + 4294967296 := by omega
    have h6 : (-(b - a)) % 4294967296 = -(b - a) := by omega
    rw [h5, h6, wrap_i64 (n := -(-(b - a)) + 4294967296) (by omega) (by omega)]
    refine ⟨fun _ => ⟨fun h => ?_, fun h => ?_⟩, fun h => by omega⟩
    · rw [wrap_i64 (by omega) (by omega), if_pos (by omega)]; rw [show -(-(b - a)) + 4294967296 - 4294967296 = b - a + 4294967296 - 4294967296 by omega]; exact KR.mk _ _
    · rw [if_neg (by omega)]; rw [show -(-(b - a)) + 4294967296 = b - a + 4294967296 by omega]; exact KR.mk _ _
theorem s76 (a b : Int) (w : World) (ha : 0 ≤ a) (ha' : a < 4294967296) (hb : 0 ≤ b) (hb' : b < 4294967296) : Calls Try.prog 76 #[.int .u32 a, .int .u32 b] w (rt (KR (.int .i64 (sd a b)) w)) := by
  refine F76_ok ?_
  unfold F76
  simp only [rdI_mk]
  rw [wrap_i64 (by omega) (by omega), wrap_i64 (by omega) (by omega)]
  exact clr (s79 a b w ha ha' hb hb') ⟨_, rfl, KR.mk _ _⟩
theorem s69 (a b : Int) (w : World) (ha : 0 ≤ a) (ha' : a < 4294967296) (hb : 0 ≤ b) (hb' : b < 4294967296) : Calls Try.prog 69 #[.int .u32 a, .int .u32 b] w (rt (KR (.bool (decide (sd a b > 0))) w)) := by
  refine F69_ok ?_
  unfold F69
  simp only [rdI_mk]
  exact clr (s76 a b w ha ha' hb hb') ⟨_, rfl, KR.mk _ _⟩
theorem s21 (a b : Int) (w : World) (ha : 0 ≤ a) (ha' : a < 4294967296) (hb : 0 ≤ b) (hb' : b < 4294967296) : Calls Try.prog 21 #[.int .u32 a, .int .u32 b] w (rt (KR (.int .u32 ((a + b) % 4294967296)) w)) := by
  refine F21_ok ?_
  unfold F21
  simp only [rdI_mk]
  rw [wrap_u64 (n := a) (by omega) (by omega), wrap_u64 (n := b) (by omega) (by omega), wrap_u64 (by omega) (by omega), Int.tmod_eq_emod_of_nonneg (by omega), wrap_u32 (by omega) (by omega)]
  exact KR.mk _ _
theorem s57 (a b : Int) (w : World) : Calls Try.prog 57 #[.int .u32 a, .int .u32 b] w (rt (KR (.bool (decide (sd a b > 0))) w)) := by
  refine F57_ok ?_
  unfold F57
  simp only [rdI_mk]
  exact clr (s62 a b w) ⟨_, rfl, KR.mk _ _⟩
end Go.Proofs.Ytmliokbonkndaaa
