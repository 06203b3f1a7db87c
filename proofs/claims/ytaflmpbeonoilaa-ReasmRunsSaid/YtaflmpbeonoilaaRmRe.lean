/-
  The document's lists: rising numbers, fixed numbers by distance; what is forgotten.
-/
import Derived.Test.YtaflmpbeonoilaaRmRd
namespace Go.Proofs.Ytaflmpbeonoilaa
open Go Go.Sh Go.RowKit
/-- a number is put in its place -/
def insR (key : Int → Int) (x : Int) : List Int → List Int
  | [] => [x]
  | y :: r => if key y < key x then y :: insR key x r else x :: y :: r
def posR (key : Int → Int) (k : Int) (out : List Int) : Nat := out.findIdx fun y => !decide (key y < k)
theorem insR_pos (key : Int → Int) (x : Int) : ∀ out : List Int, out.take (posR key (key x) out) ++ x :: out.drop (posR key (key x) out) = insR key x out
  | [] => rfl
  | y :: r => by
    unfold insR posR
    rw [List.findIdx_cons]
    by_cases h : key y < key x
    · have := insR_pos key x r
      unfold posR at this
      simp [h, this]
    · simp [h]
theorem insR_mem {key : Int → Int} {x z : Int} : ∀ {out : List Int}, z ∈ insR key x out ↔ z = x ∨ z ∈ out
  | [] => by simp [insR]
  | y :: r => by
    unfold insR
    split
    · rw [List.mem_cons, insR_mem (out := r), List.mem_cons]
      constructor
      · rintro (h | h | h) <;> simp [h]
      · rintro (h | h | h) <;> simp [h]
    · simp
theorem insR_len (key : Int → Int) (x : Int) : ∀ out : List Int, (insR key x out).length = out.length + 1
  | [] => rfl
  | y :: r => by
    unfold insR
    split
    · simp [insR_len key x r]
    · simp
theorem insR_strict {key : Int → Int} {x : Int} : ∀ {out : List Int}, out.Pairwise (fun a b => key a < key b) → (∀ y ∈ out, key y ≠ key x) → (insR key x out).Pairwise (fun a b => key a < key b)
  | [], _, _ => by simp [insR]
  | y :: r, h, hn => by
    unfold insR
    rw [List.pairwise_cons] at h
    split
    · rename_i hlt
      rw [List.pairwise_cons]
      refine ⟨fun z hz => ?_, insR_strict h.2 fun z hz => hn z (by simp [hz])⟩
      rcases insR_mem.1 hz with rfl | hz
      · exact hlt
      · exact h.1 z hz
    · rename_i hge
      have hne := hn y (by simp)
      rw [List.pairwise_cons, List.pairwise_cons]
      refine ⟨fun z hz => ?_, h⟩
      rcases List.mem_cons.1 hz with rfl | hz
      · omega
      · have := h.1 z hz
        omega
def insL (key : Int → Int) (l : List Int) : List Int := l.foldl (fun out x => insR key x out) []
theorem insL_snoc (key : Int → Int) (l : List Int) (x : Int) : insL key (l ++ [x]) = insR key x (insL key l) := by
  unfold insL
  rw [List.foldl_append]; rfl
theorem insL_all {key : Int → Int} {l : List Int} (hn : l.Nodup) (hinj : ∀ a ∈ l, ∀ b ∈ l, key a = key b → a = b) : (insL key l).Pairwise (fun a b => key a < key b) ∧ (∀ x, x ∈ insL key l ↔ x ∈ l) := by
  have : ∀ m, m ≤ l.length → (insL key (l.take m)).Pairwise (fun a b => key a < key b) ∧ (∀ x, x ∈ insL key (l.take m) ↔ x ∈ l.take m) := by
    intro m
    induction m with
    | zero => intro _; simp [insL]
    | succ m ih =>
      intro hm
      obtain ⟨h1, h2⟩ := ih (by omega)
      obtain ⟨x, hx⟩ : ∃ x, l[m]? = some x := ⟨l[m]'(by omega), by simp⟩
      have et : l.take (m + 1) = l.take m ++ [x] := by rw [List.take_add_one, hx]; rfl
      rw [et, insL_snoc]
      have hxl := List.mem_of_getElem? hx
      refine ⟨insR_strict h1 fun y hy he => ?_, fun z => ?_⟩
      · have hy' := (h2 y).1 hy
        have := hinj y ((List.take_subset _ _) hy') x hxl he
        subst this
        obtain ⟨i, hi⟩ := List.getElem?_of_mem hy'
        rw [List.getElem?_take] at hi
        split at hi
        · have := (List.getElem?_inj (i := i) (j := m) (by omega) hn).1 (by rw [hi, hx])
          omega
        · cases hi
      · rw [insR_mem, h2, List.mem_append, List.mem_singleton]
        exact Or.comm
  have := this l.length (Nat.le_refl _)
  rw [List.take_length] at this
  exact this
theorem insL_len (key : Int → Int) (l : List Int) : (insL key l).length = l.length := by
  have : ∀ (l out : List Int), (l.foldl (fun out x => insR key x out) out).length = l.length + out.length := by
    intro l
    induction l with
    | nil => intro out; simp
    | cons x l ih => intro out; rw [List.foldl_cons, ih, insR_len, List.length_cons]; omega
  have := this l []
  simpa [insL] using this
theorem insL_srt {l : List Int} (hn : l.Nodup) : insL id l = srt l := by
  obtain ⟨h1, h2⟩ := insL_all (key := id) hn (fun a _ b _ h => h)
  refine eq_strict (k := id) h1 ?_ fun x => by rw [h2, (srt_perm l).mem_iff]
  have hs := srt_pair l
  have hnd := (srt_perm l).nodup_iff.2 hn
  refine (hs.and hnd).imp fun {a b} h => ?_
  have : a ≠ b := h.2
  show a < b
  have := h.1
  omega
theorem insL_fix {F : List Int} {cum : Int} (hn : F.Nodup) (hr : ∀ t ∈ F, 0 ≤ t ∧ t < 4294967296) : insL (dif cum) (F.filter (nearB cum)) = fixS F cum := by
  have hr' : ∀ t ∈ F.filter (nearB cum), 0 ≤ t ∧ t < 4294967296 := fun t ht => hr t (List.mem_filter.1 ht).1
  obtain ⟨h1, h2⟩ := insL_all (key := dif cum) (hn.filter (nearB cum)) (fun a ha b hb h => dif_inj (hr' a ha) (hr' b hb) h)
  unfold fixS
  have hp := List.mergeSort_perm (F.filter (nearB cum)) (leD cum)
  refine eq_strict (k := dif cum) h1 (strictD (cum := cum) (hp.nodup_iff.2 (hn.filter _)) (fun t ht => hr' t (hp.mem_iff.1 ht)) ?_) fun x => by rw [h2, hp.mem_iff]
  have := List.pairwise_mergeSort (le := leD cum) (fun a b c h1 h2 => by simp [leD] at h1 h2 ⊢; omega) (fun a b => by simp [leD]; omega) (F.filter (nearB cum))
  exact this.imp fun {a b} h => by simpa [leD] using h
section
variable {W w : World} {L M Z : List HP} {rb lc : Nat} {la : Option Addr} {d : RD} {s : St} {es : List Ec} {Wl : List Int}
theorem c68 {a b : Int} (ha : 0 ≤ a ∧ a < 4294967296) (hb : 0 ≤ b ∧ b < 4294967296) (w : World) : Calls Try.prog 68 #[.int .u32 a, .int .u32 b] w (rt (KR (.int .i64 (dif a b)) w)) := by
  refine F68_ok ?_
  unfold F68
  simp only [rdI_mk]
  have c90 : Calls Try.prog 90 #[.int .i64 a, .int .i64 b, .int .i64 4294967296] w (rt (KR (.int .i64 (dif a b)) w)) := by
    refine F90_ok ?_
    unfold F90
    simp only [rdI_mk]
    have e0 : IntKind.wrap .i64 (b - a) = b - a := wrap_i64 (by omega) (by omega)
    have e1 : Int.tmod (b - a) 4294967296 = b - a := by
      by_cases h : 0 ≤ b - a
      · exact Int.tmod_eq_of_lt h (by omega)
      · have : b - a = -(a - b) := by omega
        rw [this, Int.neg_tmod, Int.tmod_eq_of_lt (by omega) (by omega)]
    have e2 : IntKind.wrap .i64 (Int.tdiv 4294967296 2) = 2147483648 := by decide
    have e3 : IntKind.wrap .i64 (b - a + 4294967296) = b - a + 4294967296 := wrap_i64 (by omega) (by omega)
    have e4 : IntKind.wrap .i64 (b - a + 4294967296 - 4294967296) = b - a := by rw [wrap_i64 (by omega) (by omega)]; omega
    have e5 : IntKind.wrap .i64 (b - a - 4294967296) = b - a - 4294967296 := wrap_i64 (by omega) (by omega)
    simp only [e0, e1, e2, e3, e4, e5]
    have hd : ∀ q : Int, dif a b = q → KR (.int .i64 (dif a b)) w (.int .i64 q) w := fun q h => by rw [h]; exact KR.mk _ _
    have hz : ∀ {A : Prop}, A → nz 4294967296 A := fun h => h
    refine hz ?_
    simp only [br_dec]
    unfold dif at hd ⊢
    refine ⟨fun h1 => ⟨fun h2 => hd _ ?_, fun h2 => hd _ ?_⟩, fun h1 => ⟨fun h2 => hd _ ?_, fun h2 => hd _ ?_⟩⟩
    · rw [if_pos (by omega)]; omega
    · rw [if_neg (by omega)]; omega
    · rw [if_pos (by omega)]; omega
    · rw [if_neg (by omega)]; omega
  have e1 : IntKind.wrap .i64 a = a := wrap_i64 (by omega) (by omega)
  have e2 : IntKind.wrap .i64 b = b := wrap_i64 (by omega) (by omega)
  rw [e1, e2]
  exact clr c90 ⟨_, rfl, KR.mk _ _⟩
theorem ch_len (hi : RIs d s) : d.es.length = s.L.length := by rw [← hi.L, List.length_map]
/-- Move -/
theorem c42 {cum : Int} (hc : 0 ≤ cum ∧ cum < 4294967296) (hi : RIs d s) (hF : ∀ t ∈ s.F, 0 ≤ t ∧ t < 4294967296) (hl : s.F.length ≤ 65536) (h : Hs W (refL rb d s Wl ++ Z) w) :
    Calls Try.prog 42 #[.pointer (some ⟨rb, 0, none⟩), .int .u32 cum] w (rt fun v w' => v = .int .i64 0 ∧ ∃ d', RIs d' (moveS s cum) ∧ Hs W (refL rb d' (moveS s cum) Wl ++ Z) w') := by
  refine F42_ok ?_
  unfold F42
  simp only [rdP_mk, rdI_mk]
  have loop : ∀ (K0 : Value → Value → World → Prop), (∀ w' a c, Hs W (slP 30 1 a (s.F.filter fun t => decide (0 < dif cum t)).length c (inV .u32 (s.F.filter fun t => decide (0 < dif cum t))) :: (refL rb d s Wl ++ Z)) w' → K0 (.pointer (some ⟨rb, 0, none⟩)) (.slice a (s.F.filter fun t => decide (0 < dif cum t)).length c) w') →
      ∀ (m j k : Nat) (w : World) (a : Option Addr) (c : Nat), j + m = s.F.length → m < k → Hs W (slP 30 1 a ((s.F.take j).filter fun t => decide (0 < dif cum t)).length c (inV .u32 ((s.F.take j).filter fun t => decide (0 < dif cum t))) :: (refL rb d s Wl ++ Z)) w →
      F42_1 K0 k (.pointer (some ⟨rb, 0, none⟩)) (.int .u32 cum) (.slice a ((s.F.take j).filter fun t => decide (0 < dif cum t)).length c) (.int .i64 (j : Int)) w := by
    intro K0 hK m
    induction m with
    | zero =>
      intro j k w a c hj hk h
      obtain ⟨k, rfl⟩ : ∃ j, k = j + 1 := ⟨k - 1, by omega⟩
      show F42_1B _ _ _ _ _ _ _
      unfold F42_1B
      simp only [rdP_mk, rdC_mk, rdI_mk, nn_some, add_mk]
      refine rl5 h 1 rfl ?_
      rw [br_dec]
      refine ⟨fun hlt => by exfalso; omega, fun _ => ?_⟩
      rw [show s.F.take j = s.F from List.take_of_length_le (by omega)] at h ⊢
      exact hK w a c h
    | succ m ih =>
      intro j k w a c hj hk h
      obtain ⟨k, rfl⟩ : ∃ j, k = j + 1 := ⟨k - 1, by omega⟩
      show F42_1B _ _ _ _ _ _ _
      unfold F42_1B
      simp only [rdP_mk, rdC_mk, rdI_mk, nn_some, add_mk]
      refine rl5 h 1 rfl ?_
      rw [br_dec]
      refine ⟨fun _ => ?_, fun hlt => by exfalso; omega⟩
      obtain ⟨t, he⟩ : ∃ t, s.F[j]? = some t := ⟨s.F[j]'(by omega), by simp⟩
      have hr := h.rd 5 rfl
      obtain ⟨xd, hxa⟩ := hr.some (by rw [inV_length]; omega)
      have hr' : Rd w (some xd) (inV .u32 s.F) := by rw [← hxa]; exact hr
      have eix : ∀ {K : Addr → Prop}, K (xd.add j) → ixS 1 d.fa s.F.length (j : Int) K := fun hk' => by rw [hxa]; refine ixS_to rfl (by omega) ?_; rw [Nat.mul_one]; exact hk'
      refine rl5 h 1 rfl (eix (ldI_c (hr'.at (inV_at he)) ?_))
      refine clr (c68 hc (hF t (List.mem_of_getElem? he)) w) ⟨_, rfl, ?_⟩
      have e1 : IntKind.wrap .i64 ((j : Int) + 1) = ((j + 1 : Nat) : Int) := by rw [wrap_i64 (by omega) (by omega)]; omega
      have etk : s.F.take (j + 1) = s.F.take j ++ [t] := by rw [List.take_add_one, he]; rfl
      rw [e1, br_dec]
      refine ⟨fun hb => ?_, fun hb => ?_⟩
      · have hb' : (0 : Int) < dif cum t := hb
        have ef : ((s.F.take (j + 1)).filter fun t => decide (0 < dif cum t)) = ((s.F.take j).filter fun t => decide (0 < dif cum t)) ++ [t] := by
          rw [etk, List.filter_append]; simp [hb']
        refine rl5 h 1 rfl (eix (ldI_c (hr'.at (inV_at he)) ?_))
        unfold alc
        have hlen := List.length_filter_le (fun t => decide (0 < dif cum t)) (s.F.take j)
        rw [List.length_take] at hlen
        refine h.push (ty := 33) E33 0 rfl (news := #[.int .u32 t]) rfl (by simp [Value.oneCell']) (by omega) (by omega) fun a' c' w8 h9 => ?_
        have h9 : Hs W (slP 30 1 a' (((s.F.take j).filter fun t => decide (0 < dif cum t)).length + 1) c' (inV .u32 ((s.F.take j).filter fun t => decide (0 < dif cum t)) ++ [.int .u32 t]) :: (refL rb d s Wl ++ Z)) w8 := h9
        rw [← inV_snoc, ← ef] at h9
        have el : ((s.F.take j).filter fun t => decide (0 < dif cum t)).length + 1 = ((s.F.take (j + 1)).filter fun t => decide (0 < dif cum t)).length := by rw [ef]; simp
        rw [el] at h9 ⊢
        exact ih (j + 1) k w8 a' c' (by omega) (by omega) h9
      · have hb' : ¬ (0 : Int) < dif cum t := hb
        have ef : ((s.F.take (j + 1)).filter fun t => decide (0 < dif cum t)) = ((s.F.take j).filter fun t => decide (0 < dif cum t)) := by
          rw [etk, List.filter_append]; simp [hb']
        have := ih (j + 1) k w a c (by omega) (by omega) (by rw [ef]; exact h)
        rw [ef] at this
        exact this
  refine ⟨s.F.length + 1, loop _ (fun w' a c h' => ?_) s.F.length 0 _ w none 0 (by omega) (by omega) (by simpa [inV] using h.nil 30 1)⟩
  intro _g
  simp only [rdP_mk, rdC_mk, nn_some, add_mk]
  refine h'.stc 1 rfl (by simp [refC, R85.c]) fun w16 h16 => ?_
  have h17 := h16.erase 5
  have h18 := h17.perm (List.perm_middle (l₁ := [_, _, _, _])).symm
  exact ⟨by first | rfl | trivial, { d with fa := a, fc := c }, ⟨hi.L, hi.M⟩, h18⟩
theorem at_lt {key : Int → Int} {k : Int} {out : List Int} {j : Nat} {y : Int} (hj : out[j]? = some y) (hp : j < posR key k out) : key y < k := by
  have := List.not_of_lt_findIdx (p := fun y => !decide (key y < k)) (xs := out) (i := j) hp
  have e : out[j]'(by unfold posR at hp; exact Nat.lt_of_lt_of_le hp List.findIdx_le_length) = y := (List.getElem?_eq_some_iff.1 hj).2
  rw [e] at this
  simpa using this
theorem at_ge {key : Int → Int} {k : Int} {out : List Int} {y : Int} (hj : out[posR key k out]? = some y) : ¬ key y < k := by
  have hl : posR key k out < out.length := (List.getElem?_eq_some_iff.1 hj).1
  have := List.findIdx_getElem (p := fun y => !decide (key y < k)) (xs := out) (w := hl)
  have e : out[posR key k out]'hl = y := (List.getElem?_eq_some_iff.1 hj).2
  have e2 : out[out.findIdx fun y => !decide (key y < k)]'hl = y := e
  rw [e2] at this
  simpa using this
theorem run_b33 (w : World) : Sem.run Try.prog (Instr.buildSlice 33 0 #[]) w = .ok (.slice (some ⟨w.heap.size, 0, none⟩) 0 0) (w.alloc (.cells #[] 30)) := by kernel_rfl
theorem inV_take (k : IntKind) (X : List Int) (n : Nat) : (inV k X).take n = inV k (X.take n) := by simp [inV, List.map_take]
theorem inV_drop (k : IntKind) (X : List Int) (n : Nat) : (inV k X).drop n = inV k (X.drop n) := by simp [inV, List.map_drop]
end
end Go.Proofs.Ytaflmpbeonoilaa
