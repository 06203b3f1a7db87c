/- Own text: part of the shallow reading of the code and of the contracts that are proved over it. -/
import Derived.Test.YtjcigidbnpmeaaaDoorSpD
namespace Go.Proofs.YtjcigidbnpmeaaaDoor
open Go Go.Sh Go.Sp

/-! move: the cumulative number goes on -/
def shift (n : Nat) (S : List Nat) : List Nat := (S.filter (n < ·)).map (· - n)
theorem shift_nil (n : Nat) : shift n [] = [] := rfl
theorem shift_snoc (n : Nat) (S : List Nat) (d : Nat) : shift n (S ++ [d]) = if n < d then shift n S ++ [d - n] else shift n S := by
  unfold shift
  by_cases h : n < d
  · simp [List.filter_append, h]
  · simp [List.filter_append, h]
theorem mem_shift {n e : Nat} {S : List Nat} : e ∈ shift n S ↔ 1 ≤ e ∧ e + n ∈ S := by
  unfold shift
  simp only [List.mem_map, List.mem_filter, decide_eq_true_eq]
  constructor
  · rintro ⟨d, ⟨h1, h2⟩, rfl⟩
    exact ⟨by omega, by rw [Nat.sub_add_cancel (by omega)]; exact h1⟩
  · rintro ⟨h1, h2⟩
    exact ⟨e + n, ⟨h2, by omega⟩, by omega⟩
theorem shift_rising {n : Nat} {S : List Nat} (h : S.Pairwise (· < ·)) : (shift n S).Pairwise (· < ·) := by
  unfold shift
  rw [List.pairwise_map]
  refine (h.sublist (List.filter_sublist (p := fun x => decide (n < x)))).imp_of_mem ?_
  intro a b ha hb hab
  have := (List.mem_filter.1 ha).2
  simp at this
  omega
theorem ins_last {d : Nat} {S : List Nat} (h : ∀ e ∈ S, e < d) : ins d S = S ++ [d] := by
  induction S with
  | nil => rfl
  | cons x r ih =>
    have := h x List.mem_cons_self
    unfold ins
    rw [if_neg (by omega), if_neg (by omega), ih fun e he => h e (List.mem_cons_of_mem _ he)]
    rfl

section
variable {b m : Nat} {cum : Int} {S : List Nat}
/-- while the old distances are gone through -/
structure Mv (w0 : World) (b m m' bo bn bs : Nat) (cum : Int) (n : Nat) (S : List Nat) (f : Int → Option Int) (pre : List Nat) (w : World) : Prop where
  fr : Fr (fun k => k = b ∨ w0.heap.size ≤ k) w0 w
  fld : Fld w b m' #[.map (some m'), .int .i64 ((shift n pre).length : Int), .int .u32 cum] 67 (shift n pre)
  old : w.heap[bo]? = some (.cells #[.map (some m), .int .i64 (S.length : Int)] 65 (0, 0))
  num : w.heap[bn]? = some (.cells #[.int .i64 (n : Int)] 3 (0, 0))
  ptr : w.heap[bs]? = some (.cells #[.pointer (some ⟨b, 0, none⟩)] 25 (0, 0))
theorem c54 {w0 w : World} {m' bo bn bs : Nat} {f : Int → Option Int} {n d : Nat} {pre rest : List Nat} (hr : S.Pairwise (· < ·)) (hb : ∀ d ∈ S, d ≤ 65535) (hS : S = pre ++ d :: rest)
    (hbo : w0.heap.size ≤ bo) (hbn : w0.heap.size ≤ bn) (hbs : w0.heap.size ≤ bs) (hm' : w0.heap.size ≤ m') (hbl : b < w0.heap.size) (hmo : m' ≠ bo) (hmn : m' ≠ bn) (hms : m' ≠ bs)
    (h : Mv w0 b m m' bo bn bs cum n S f pre w) :
    Calls Tryd.prog 54 #[.int .i64 (d : Int), .pointer (some ⟨bn, 0, none⟩), .pointer (some ⟨bs, 0, none⟩)] w (rt fun v w' => v = .tuple #[] ∧ Mv w0 b m m' bo bn bs cum n S f (pre ++ [d]) w') := by
  refine F54_ok ?_
  unfold F54 drw
  simp only [rdI_mk, rdA_mk]
  refine ldI_at h.num rfl ?_
  have hd := hb d (by rw [hS]; simp)
  simp only [br_dec]
  refine ⟨fun h1 => ?_, fun h1 => ⟨trivial, ?_⟩⟩
  · have hf : Fr (fun k => k = b ∨ w0.heap.size ≤ k) w0 w.drew := h.fr.drew
    have hfld := h.fld.drew
    refine ldP_at (w := w.drew) h.ptr rfl ?_
    simp only [nn_some, add_mk]
    refine ldI_at (w := w.drew) h.num rfl ?_
    have e1 : IntKind.wrap .i64 ((d : Int) - (n : Int)) = ((d - n : Nat) : Int) := by rw [wrap_i64 (by omega) (by omega)]; omega
    rw [e1]
    have hpr : (pre ++ d :: rest).Pairwise (· < ·) := by rw [← hS]; exact hr
    have hlt : ∀ e ∈ shift n pre, e < d - n := fun e he => by
      have := (List.pairwise_append.1 hpr).2.2 _ (mem_shift.1 he).2 d List.mem_cons_self
      omega
    have hnm : d - n ∉ shift n pre := fun he => by have := hlt _ he; omega
    have hlen : (shift n pre).length ≤ 65536 := by
      have := rising_length (shift_rising (n := n) (List.pairwise_append.1 hpr).1) (a := 0) (b := 65536) (fun e he => by have := hlt e he; omega)
      omega
    refine cl (c38_new hfld (by omega) hnm (by omega)) ?_
    rintro _ w' ⟨rfl, h2, h3⟩
    refine ⟨_, rfl, trivial, ?_⟩
    have hsh : ins (d - n) (shift n pre) = shift n (pre ++ [d]) := by rw [ins_last hlt, shift_snoc, if_pos (by omega)]
    rw [hsh] at h2
    refine ⟨hf.trans h3 (fun i hi hx => ?_), h2, h3.blk h.old ?_, h3.blk h.num ?_, h3.blk h.ptr ?_⟩
    · rcases hx with hx | hx
      · exact .inl hx
      · exact .inr (by omega)
    · rintro (hx | hx) <;> omega
    · rintro (hx | hx) <;> omega
    · rintro (hx | hx) <;> omega
  · have hsh : shift n (pre ++ [d]) = shift n pre := by rw [shift_snoc, if_neg (by omega)]
    exact ⟨h.fr, by rw [hsh]; exact h.fld, h.old, h.num, h.ptr⟩
theorem c48 {w : World} {n : Nat} (ht : TB w) (h : SetR w b m cum S) (hn1 : 1 ≤ n) (hn : n ≤ 65535) (hnext : n + 1 ∉ S) :
    Calls Tryd.prog 48 #[.pointer (some ⟨b, 0, none⟩), .int .i64 (n : Int)] w (rt fun v w' => v = .tuple #[] ∧ ∃ m', w.heap.size ≤ m' ∧ SetR w' b m' ((cum + n) % 4294967296) (shift n S) ∧ Fr (· = b) w w') := by
  refine F48_ok ?_
  unfold F48 alc drw
  simp only [rdP_mk, rdI_mk]
  obtain ⟨f, hmap, hfw⟩ := h.fld.map
  have hbl := h.blt
  have hml := h.mlt
  -- the worlds, one by one
  obtain ⟨w1, hw1⟩ : ∃ w1, w1 = w.alloc (.cells #[.pointer (some ⟨b, 0, none⟩)] 25) := ⟨_, rfl⟩
  have z1 : w1.heap.size = w.heap.size + 1 := by rw [hw1]; simp
  have p1 : w1.heap[w.heap.size]? = some (.cells #[.pointer (some ⟨b, 0, none⟩)] 25 (0, 0)) := by rw [hw1]; exact alloc_new _ _
  have b1 : w1.heap[b]? = some (.cells #[.map (some m), .int .i64 (S.length : Int), .int .u32 cum] 67 (0, 0)) := by rw [hw1]; exact alloc_blk h.fld.blk
  have f1 : Fr (· = b) w w1 := by rw [hw1]; exact (Fr.refl w).alloc _
  rw [← hw1]
  clear hw1
  obtain ⟨w2, hw2⟩ : ∃ w2, w2 = w1.alloc (.cells #[.int .i64 (n : Int)] 3) := ⟨_, rfl⟩
  have z2 : w2.heap.size = w.heap.size + 2 := by rw [hw2]; simp [z1]
  have n2 : w2.heap[w1.heap.size]? = some (.cells #[.int .i64 (n : Int)] 3 (0, 0)) := by rw [hw2]; exact alloc_new _ _
  have p2 : w2.heap[w.heap.size]? = some (.cells #[.pointer (some ⟨b, 0, none⟩)] 25 (0, 0)) := by rw [hw2]; exact alloc_blk p1
  have b2 : w2.heap[b]? = some (.cells #[.map (some m), .int .i64 (S.length : Int), .int .u32 cum] 67 (0, 0)) := by rw [hw2]; exact alloc_blk b1
  have f2 : Fr (· = b) w w2 := by rw [hw2]; exact f1.alloc _
  rw [← hw2]
  clear hw2
  refine ldP_at p2 rfl ?_
  simp only [nn_some, add_mk]
  refine ldM_at b2 rfl (ldI_at b2 rfl ?_)
  obtain ⟨w3, hw3⟩ : ∃ w3, w3 = w2.alloc (.cells #[.map none, .int .i64 0] 65) := ⟨_, rfl⟩
  have z3 : w3.heap.size = w.heap.size + 3 := by rw [hw3]; simp [z2]
  have o3 : w3.heap[w2.heap.size]? = some (.cells #[.map none, .int .i64 0] 65 (0, 0)) := by rw [hw3]; exact alloc_new _ _
  have n3 : w3.heap[w1.heap.size]? = some (.cells #[.int .i64 (n : Int)] 3 (0, 0)) := by rw [hw3]; exact alloc_blk n2
  have p3 : w3.heap[w.heap.size]? = some (.cells #[.pointer (some ⟨b, 0, none⟩)] 25 (0, 0)) := by rw [hw3]; exact alloc_blk p2
  have b3 : w3.heap[b]? = some (.cells #[.map (some m), .int .i64 (S.length : Int), .int .u32 cum] 67 (0, 0)) := by rw [hw3]; exact alloc_blk b2
  have f3 : Fr (· = b) w w3 := by rw [hw3]; exact f2.alloc _
  rw [← hw3]
  clear hw3
  refine stc_at o3 (by decide) ?_
  refine stc_at (sb_same o3) (by simp) ?_
  obtain ⟨w4, hw4⟩ : ∃ w4, w4 = sb (sb w3 w2.heap.size (.cells (#[.map none, .int .i64 0].setIfInBounds (0 + 0) (.map (some m))) 65 (0, 0))) w2.heap.size
    (.cells ((#[.map none, .int .i64 0].setIfInBounds (0 + 0) (.map (some m))).setIfInBounds (0 + 1) (.int .i64 (S.length : Int))) 65 (0, 0)) := ⟨_, rfl⟩
  have z4 : w4.heap.size = w.heap.size + 3 := by rw [hw4]; simp [z3]
  have o4 : w4.heap[w2.heap.size]? = some (.cells #[.map (some m), .int .i64 (S.length : Int)] 65 (0, 0)) := by rw [hw4]; exact sb_same (sb_same o3)
  have n4 : w4.heap[w1.heap.size]? = some (.cells #[.int .i64 (n : Int)] 3 (0, 0)) := by rw [hw4, sb_other (by omega), sb_other (by omega)]; exact n3
  have p4 : w4.heap[w.heap.size]? = some (.cells #[.pointer (some ⟨b, 0, none⟩)] 25 (0, 0)) := by rw [hw4, sb_other (by omega), sb_other (by omega)]; exact p3
  have b4 : w4.heap[b]? = some (.cells #[.map (some m), .int .i64 (S.length : Int), .int .u32 cum] 67 (0, 0)) := by rw [hw4, sb_other (by omega), sb_other (by omega)]; exact b3
  have f4 : Fr (· = b) w w4 := by rw [hw4]; exact (f3.sb (fun h => by omega)).sb (fun h => by omega)
  rw [← hw4]
  clear hw4
  refine ldP_at p4 rfl ?_
  obtain ⟨w5, hw5⟩ : ∃ w5, w5 = w4.alloc (.map #[] 0) := ⟨_, rfl⟩
  have z5 : w5.heap.size = w.heap.size + 4 := by rw [hw5]; simp [z4]
  have m5 : MapI .i64 .u64 w5 w4.heap.size fun _ => none := by rw [hw5]; exact MapI.new _ _ _
  have o5 : w5.heap[w2.heap.size]? = some (.cells #[.map (some m), .int .i64 (S.length : Int)] 65 (0, 0)) := by rw [hw5]; exact alloc_blk o4
  have n5 : w5.heap[w1.heap.size]? = some (.cells #[.int .i64 (n : Int)] 3 (0, 0)) := by rw [hw5]; exact alloc_blk n4
  have p5 : w5.heap[w.heap.size]? = some (.cells #[.pointer (some ⟨b, 0, none⟩)] 25 (0, 0)) := by rw [hw5]; exact alloc_blk p4
  have b5 : w5.heap[b]? = some (.cells #[.map (some m), .int .i64 (S.length : Int), .int .u32 cum] 67 (0, 0)) := by rw [hw5]; exact alloc_blk b4
  have f5 : Fr (· = b) w w5 := by rw [hw5]; exact f4.alloc _
  rw [← hw5]
  clear hw5
  simp only [nn_some, add_mk]
  refine stc_at b5 (by simp) ?_
  refine stc_at (sb_same b5) (by simp) ?_
  generalize hw6 : World.drew _ = w6
  have b6 : w6.heap[b]? = some (.cells #[.map (some w4.heap.size), .int .i64 0, .int .u32 cum] 67 (0, 0)) := by rw [← hw6]; exact sb_same (sb_same b5)
  have z6 : w6.heap.size = w.heap.size + 4 := by rw [← hw6]; simp [z5]
  have g6 : ∀ c, c ≠ b → w6.heap[c]? = w5.heap[c]? := fun c hc => by rw [← hw6, drew_heap, sb_other hc, sb_other hc]
  have f6 : Fr (· = b) w w6 := by rw [← hw6]; exact ((f5.sb (fun _ => rfl)).sb (fun _ => rfl)).drew
  clear hw6
  have o6 := (g6 w2.heap.size (by omega)).trans o5
  have n6 := (g6 w1.heap.size (by omega)).trans n5
  have p6 := (g6 w.heap.size (by omega)).trans p5
  have m6 : MapI .i64 .u64 w6 w4.heap.size fun _ => none := m5.of_blk (g6 _ (by omega))
  refine ldP_at p6 rfl ?_
  simp only [nn_some, add_mk]
  refine ldI_at b6 rfl (ldI_at n6 rfl (stc_at b6 (by simp) ?_))
  have hc0 := h.c0
  have hc1 := h.c1
  have hcum : IntKind.wrap .u32 (cum + IntKind.wrap .u32 (n : Int)) = (cum + n) % 4294967296 := by
    rw [wrap_u32 (n := (n : Int)) (by omega) (by omega), wrap_u32_mod]
  rw [hcum]
  generalize hw7 : sb w6 b _ = w7
  have b7 : w7.heap[b]? = some (.cells #[.map (some w4.heap.size), .int .i64 0, .int .u32 ((cum + n) % 4294967296)] 67 (0, 0)) := by rw [← hw7]; exact sb_same b6
  have g7 : ∀ c, c ≠ b → w7.heap[c]? = w6.heap[c]? := fun c hc => by rw [← hw7, sb_other hc]
  have f7 : Fr (· = b) w w7 := by rw [← hw7]; exact f6.sb (fun _ => rfl)
  clear hw7
  have o7 := (g7 w2.heap.size (by omega)).trans o6
  have start : Mv w b m w4.heap.size w2.heap.size w1.heap.size w.heap.size ((cum + n) % 4294967296) n S f [] w7 :=
    ⟨f7.mono fun i hi hx => .inl hx, ⟨b7, rfl, rfl, fun _ => none, m6.of_blk (g7 _ (by omega)), fun _ => rfl⟩, o7, (g7 w1.heap.size (by omega)).trans n6, (g7 w.heap.size (by omega)).trans p6⟩
  have tb : b ≠ 0 := ht.ne h.fld.blk (by simp)
  have tm : m ≠ 0 := ht.ne_map hmap
  have E : Each w2.heap.size m S (.func (.func 54) #[] #[.pointer (some ⟨w1.heap.size, 0, none⟩), .pointer (some ⟨w.heap.size, 0, none⟩)])
      (Mv w b m w4.heap.size w2.heap.size w1.heap.size w.heap.size ((cum + n) % 4294967296) n S f) :=
    { rising := h.rising
      bound := fun d hd => by have := h.rng d hd; omega
      tab := fun pre w' hI => ht.fr hI.fr (by
        rintro (hx | hx)
        · exact tb hx.symm
        · obtain ⟨T, z, ht⟩ := ht
          have := lt_of_blk ht
          omega)
      fld := fun pre w' hI => ⟨_, _, f, hI.old, rfl, hmap.fr hI.fr (by
        rintro (hx | hx)
        · exact h.fld.ne hx
        · omega), hfw⟩
      step := fun pre d rest w' hS hI => by
        refine callV_of (by kernel_rfl) (call_of (c54 (S := S) (rest := rest) h.rising (fun d hd => (h.rng d hd).2) hS (by omega) (by omega) (by omega) (by omega) hbl (by omega) (by omega) (by omega) hI) ?_)
        rintro _ w'' ⟨v, rfl, rfl, h2⟩
        exact ⟨rfl, rfl, h2⟩ }
  refine cl (c36 E o7 rfl start) ?_
  rintro _ w' ⟨rfl, hI⟩
  refine ⟨rfl, trivial, w4.heap.size, by omega, ⟨hI.fld, shift_rising h.rising, fun d hd => ?_, by omega, by omega⟩, hI.fr.mono fun i hi hx => ?_⟩
  · obtain ⟨h1, h2⟩ := mem_shift.1 hd
    have := h.rng _ h2
    refine ⟨?_, by omega⟩
    rcases Nat.lt_or_ge d 2 with h3 | h3
    · exfalso
      have : d = 1 := by omega
      subst this
      exact hnext (by rw [Nat.add_comm]; exact h2)
    · exact h3
  · rcases hx with hx | hx
    · exact hx
    · omega
end
end Go.Proofs.YtjcigidbnpmeaaaDoor
