/- Own text: part of the shallow reading of the code and of the contracts that are proved over it. -/
import Derived.Test.YtaiofglmcoojbaaScK
namespace Go.Proofs.Ytaiofglmcoojbaa
open Go Go.Sh
section
variable {W w : World} {L M : List HP} {va : Option Addr} {vs : List VW} {vc : Nat}
/-! rounds -/
def cv (n : Nat) (ts : List Nat) : List Nat := (List.range n).map fun i => ts.count i
theorem cv_len (n : Nat) (ts : List Nat) : (cv n ts).length = n := by simp [cv]
theorem cv_at {n i : Nat} {ts : List Nat} (h : i < n) : (cv n ts)[i]? = some (ts.count i) := by simp [cv, h]
theorem cv_snoc {n x : Nat} {ts : List Nat} (h : x < n) : cv n (ts ++ [x]) = (cv n ts).set x (ts.count x + 1) := by
  apply List.ext_getElem?
  intro i
  rw [List.getElem?_set, cv_len]
  by_cases hi : i < n
  · rw [cv_at hi, cv_at hi, List.count_append]
    by_cases e : x = i
    · subst e; simp [h]
    · rw [if_neg e, List.count_cons_of_ne e]; simp
  · have e : x ≠ i := by omega
    rw [if_neg e, List.getElem?_eq_none (by rw [cv_len]; omega), List.getElem?_eq_none (by rw [cv_len]; omega)]
theorem inV_set (xs : List Nat) (i y : Nat) : inV (xs.set i y) = (inV xs).set i (.int .i64 (y : Int)) := by simp [inV, List.map_set]
theorem zeros (n : Nat) : (madeCells (Value.int .i64 0).cells (n * 1)).toList = inV (cv n []) := by
  apply List.ext_getElem
  · simp [madeCells, inV, cv]
  · intro i h1 h2
    simp [madeCells, Value.cells, Nat.mod_one, inV, cv]
theorem c6 (hv : Rd w va (vs.flatMap vwC)) (last : Int) (hlr : -9223372036854775808 ≤ last ∧ last ≤ 9223372036854775807) : Calls Try.prog 6 #[.int .i64 last, .slice va vs.length vc] w (rt fun v w' => v = .bool true ∧ Same w w') := by
  refine F6_ok ?_
  unfold F6
  simp only [rdI_mk, rdC_mk]
  refine cl (c15 w) ?_
  rintro _ w1 ⟨rfl, s1⟩
  refine ⟨_, rfl, ?_⟩
  have h1 := (Hs.start w).same s1
  rw [show (!true) = false from rfl, br_false]
  refine cl (c14 (h1.rd_old hv)) ?_
  rintro _ w2 ⟨rfl, s2⟩
  refine ⟨_, rfl, ?_⟩
  have h2 := h1.same s2
  have e0 : ∀ x : Int, (x == x) = true := fun x => by simp
  rw [br_iff]
  refine ⟨fun hb => ?_, fun hb => ?_⟩
  · refine cl (c13 (h2.rd_old hv)) ?_
    rintro _ w3 ⟨rfl, s3⟩
    refine ⟨_, rfl, ?_⟩
    have h3 := h2.same s3
    refine cl (c14 (h3.rd_old hv)) ?_
    rintro _ w4 ⟨rfl, s4⟩
    refine ⟨_, rfl, ?_⟩
    rw [e0]
    exact ⟨rfl, (h3.same s4).1⟩
  have hc : chk vs = 0 := by simpa using hb
  obtain ⟨hn8, _⟩ := ok_of hc
  have ho := okAll_of hc
  refine cl (c18 (h2.rd_old hv) hn8.2 ho) ?_
  rintro _ w3 ⟨fa, fc, rfl, o3, s3⟩
  refine ⟨_, _, _, rfl, ?_⟩
  have h3 := h2.own_new s3 o3
  have hfl := fit_len vs
  refine h3.make E23 (by omega) (by omega) (by omega) ?_
  intro sa w4 h4 _
  rw [zeros] at h4
  obtain ⟨s, hs⟩ : ∃ s : Nat, 0 < (fit vs).length → s < (fit vs).length ∧ ∃ x : Nat, (fit vs)[s]? = some x ∧ nxt 0 last vs = ((x : Int), true, 0) := by
    by_cases hL : 0 < (fit vs).length
    · obtain ⟨s, x, e1, e2⟩ := first_fit hc hL last
      exact ⟨s, fun _ => ⟨(List.getElem?_eq_some_iff.1 e1).1, x, e1, e2⟩⟩
    · exact ⟨0, fun h => absurd h hL⟩
  have loop : ∀ (i t : Nat) (lst : Int) (w5 : World) (k : Nat) (K0 : Value → Value → World → Prop) (Kr : Value → World → Prop), t + i = (fit vs).length → -9223372036854775808 ≤ lst ∧ lst ≤ 9223372036854775807 →
      (0 < i → ∃ x : Nat, (fit vs)[(s + t) % (fit vs).length]? = some x ∧ nxt 0 lst vs = ((x : Int), true, 0)) → Hs w [slP 3 1 sa vs.length vs.length (inV (cv vs.length (turns vs s t))), slP 3 1 fa (fit vs).length fc (inV (fit vs))] w5 → i < k →
      (∀ w', Hs w [slP 3 1 sa vs.length vs.length (inV (cv vs.length (turns vs s (fit vs).length))), slP 3 1 fa (fit vs).length fc (inV (fit vs))] w' → K0 (.slice fa (fit vs).length fc) (.slice sa vs.length vs.length) w') →
      F6_3 K0 Kr k (.int .i64 lst) (.slice va vs.length vc) (.slice fa (fit vs).length fc) (.slice sa vs.length vs.length) (.int .i64 (t : Int)) w5 := by
    intro i
    induction i with
    | zero =>
      intro t lst w5 k K0 Kr hj hl hx hw hk hK
      obtain ⟨k, rfl⟩ : ∃ j, k = j + 1 := ⟨k - 1, by omega⟩
      show F6_3B _ _ _ _ _ _ _ _ _
      unfold F6_3B
      simp only [rdC_mk, rdI_mk]
      rw [br_dec]
      have : t = (fit vs).length := by omega
      subst this
      exact ⟨fun h => by exfalso; omega, fun _ => hK w5 hw⟩
    | succ i ih =>
      intro t lst w5 k K0 Kr hj hl hx hw hk hK
      obtain ⟨k, rfl⟩ : ∃ j, k = j + 1 := ⟨k - 1, by omega⟩
      show F6_3B _ _ _ _ _ _ _ _ _
      unfold F6_3B
      simp only [rdC_mk, rdI_mk]
      rw [br_dec]
      refine ⟨fun _ => ?_, fun h => by exfalso; omega⟩
      obtain ⟨x, ex, en⟩ := hx (by omega)
      have hxl := (fit_lt (List.mem_of_getElem? ex)).1
      refine cl (c10 (hw.rd_old hv) 0 lst hl) ?_
      rintro _ w6 ⟨rfl, s6⟩
      have h6 := hw.same s6
      rw [en]
      refine ⟨_, _, _, rfl, ?_⟩
      rw [show (!(((x : Int), true, (0 : Int)).2.1)) = false from rfl, br_false, show ((((x : Int), true, (0 : Int)).2.2) != 0) = false from rfl, br_false, br_dec]
      refine ⟨fun h => by exfalso; simp only at h; omega, fun _ => ?_⟩
      rw [br_dec]
      refine ⟨fun h => by exfalso; simp only at h; omega, fun _ => ?_⟩
      unfold F6_1
      simp only [rdC_mk, rdI_mk]
      have hcnt : (turns vs s t).count x ≤ 8 := Nat.le_trans List.count_le_length (by simp [turns]; omega)
      have hat := cv_at (ts := turns vs s t) hxl
      obtain ⟨sd, hsd⟩ := (h6.rd 0 rfl).some (by rw [inV_length, cv_len]; omega)
      subst hsd
      refine ixS_of (by omega) (by omega) ?_
      rw [Int.toNat_natCast, Nat.mul_one]
      refine ldI_c ((h6.rd 0 rfl).at (inV_at hat)) (ixS_of (by omega) (by omega) ?_)
      rw [Int.toNat_natCast, Nat.mul_one]
      have e2 : IntKind.wrap .i64 ((((turns vs s t).count x : Nat) : Int) + 1) = (((turns vs s t).count x + 1 : Nat) : Int) := by rw [wrap_i64 (by omega) (by omega)]; omega
      have e1 : IntKind.wrap .i64 ((t : Int) + 1) = ((t + 1 : Nat) : Int) := by rw [wrap_i64 (by omega) (by omega)]; omega
      rw [e2]
      refine h6.put 0 rfl (by rw [inV_length, cv_len]; exact hxl) fun w7 h7 => ?_
      intro _g
      rw [e1]
      refine ih (t + 1) x w7 k K0 Kr (by omega) (by omega) (fun hi => ?_) ?_ (by omega) hK
      · obtain ⟨y, hy⟩ : ∃ y, (fit vs)[(s + (t + 1)) % (fit vs).length]? = some y := ⟨(fit vs)[(s + (t + 1)) % (fit vs).length]'(Nat.mod_lt _ (by omega)), by simp⟩
        refine ⟨y, hy, next_fit hc ex ?_⟩
        rw [Nat.mod_add_mod]; exact hy
      · have : (fit vs).getD ((s + t) % (fit vs).length) 0 = x := by rw [List.getD_eq_getElem?_getD, ex]; rfl
        rw [turns_succ, this, cv_snoc hxl, inV_set]
        exact h7
  refine ⟨(fit vs).length + 1, loop (fit vs).length 0 last w4 _ _ _ (by omega) hlr (fun h => ?_) h4 (by omega) fun w5 h5 => ?_⟩
  · obtain ⟨hsl, x, e1, e2⟩ := hs h
    rw [Nat.add_zero, Nat.mod_eq_of_lt hsl]
    exact ⟨x, e1, e2⟩
  intro _g
  simp only [rdC_mk]
  have loop2 : ∀ (i j : Nat) (w6 : World) (k : Nat) (K2 : World → Prop) (Kr : Value → World → Prop), j + i = (fit vs).length → Hs w [slP 3 1 sa vs.length vs.length (inV (cv vs.length (turns vs s (fit vs).length))), slP 3 1 fa (fit vs).length fc (inV (fit vs))] w6 → i < k →
      (∀ w', Hs w [slP 3 1 sa vs.length vs.length (inV (cv vs.length (turns vs s (fit vs).length))), slP 3 1 fa (fit vs).length fc (inV (fit vs))] w' → K2 w') → F6_2 K2 Kr k (.slice fa (fit vs).length fc) (.slice sa vs.length vs.length) (.int .i64 (j : Int)) w6 := by
    intro i
    induction i with
    | zero =>
      intro j w6 k K2 Kr hj hw hk hK
      obtain ⟨k, rfl⟩ : ∃ j, k = j + 1 := ⟨k - 1, by omega⟩
      show F6_2B _ _ _ _ _ _ _
      unfold F6_2B
      simp only [rdC_mk, rdI_mk]
      rw [br_dec]
      exact ⟨fun h => by exfalso; omega, fun _ => hK w6 hw⟩
    | succ i ih =>
      intro j w6 k K2 Kr hj hw hk hK
      obtain ⟨k, rfl⟩ : ∃ j, k = j + 1 := ⟨k - 1, by omega⟩
      show F6_2B _ _ _ _ _ _ _
      unfold F6_2B
      simp only [rdC_mk, rdI_mk]
      rw [br_dec]
      refine ⟨fun _ => ?_, fun h => by exfalso; omega⟩
      obtain ⟨x, ex⟩ : ∃ x, (fit vs)[j]? = some x := ⟨(fit vs)[j]'(by omega), by simp⟩
      have hxl := (fit_lt (List.mem_of_getElem? ex)).1
      have hat := cv_at (ts := turns vs s (fit vs).length) hxl
      rw [turns_once (hs (by omega)).1 (List.mem_of_getElem? ex)] at hat
      obtain ⟨sd, hsd⟩ := (hw.rd 0 rfl).some (by rw [inV_length, cv_len]; omega)
      obtain ⟨fd, hfd⟩ := (hw.rd 1 rfl).some (by rw [inV_length]; omega)
      subst hsd; subst hfd
      refine ixS_of (by omega) (by omega) ?_
      rw [Int.toNat_natCast, Nat.mul_one]
      refine ldI_c ((hw.rd 1 rfl).at (inV_at ex)) (ixS_of (by omega) (by omega) ?_)
      rw [Int.toNat_natCast, Nat.mul_one]
      refine ldI_c ((hw.rd 0 rfl).at (inV_at hat)) ?_
      have e1 : IntKind.wrap .i64 ((j : Int) + 1) = ((j + 1 : Nat) : Int) := by rw [wrap_i64 (by omega) (by omega)]; omega
      rw [e1, show (((1 : Nat) : Int) != 1) = false from rfl, br_false]
      exact ih (j + 1) w6 k K2 Kr (by omega) hw (by omega) hK
  exact ⟨(fit vs).length + 1, loop2 (fit vs).length 0 w5 _ _ _ (by omega) h5 (by omega) fun w' h' _g => ⟨trivial, h'.1⟩⟩
/-! views of paths that are not fit -/
noncomputable def E42i : TypeInfo := (Try.prog.info? 42).getD default
theorem E22 : ElemT Try.prog 22 42 4 32 (.agg #[.int .i64 0, .int .i64 0, .int .i64 0, .bool false]) E42i := ⟨by kernel_rfl, by kernel_rfl, by kernel_rfl, by kernel_rfl, by kernel_rfl, rfl, by decide⟩
theorem run_b22 (w : World) : Sem.run Try.prog (Instr.buildSlice 22 0 #[]) w = .ok (.slice (some ⟨w.heap.size, 0, none⟩) 0 0) (w.alloc (.cells #[] 42)) := by kernel_rfl
def dl (tr sp : Int) (v : VW) : VW := { v with tr := tr, sp := sp, sh := false }
def stg (F : List Nat) (tr sp : Int) (vs : List VW) (j : Nat) : List VW := (List.range vs.length).map fun i => if j ≤ i ∨ i ∈ F then gv vs i else dl tr sp (gv vs i)
section
variable {F : List Nat} {tr sp : Int}
theorem stg_len (j : Nat) : (stg F tr sp vs j).length = vs.length := by simp [stg]
theorem stg_at {i j : Nat} (h : i < vs.length) : (stg F tr sp vs j)[i]? = some (if j ≤ i ∨ i ∈ F then gv vs i else dl tr sp (gv vs i)) := by simp [stg, h]
theorem stg_0 : stg F tr sp vs 0 = vs := by
  apply List.ext_getElem?
  intro i
  by_cases hi : i < vs.length
  · rw [stg_at hi, if_pos (.inl (Nat.zero_le _)), gv_at hi]
  · rw [List.getElem?_eq_none (by rw [stg_len]; omega), List.getElem?_eq_none (by omega)]
theorem stg_n : stg F tr sp vs vs.length = dull F tr sp vs := by
  unfold stg dull
  apply List.map_congr_left
  intro i hi
  rw [List.mem_range] at hi
  by_cases h : i ∈ F
  · rw [if_pos (.inr h), if_pos h]
  · rw [if_neg (fun e => e.elim (by omega) h), if_neg h]; rfl
theorem stg_skip {j : Nat} (h : j ∈ F) : stg F tr sp vs (j + 1) = stg F tr sp vs j := by
  unfold stg
  apply List.map_congr_left
  intro i hi
  by_cases e : j ≤ i ∨ i ∈ F
  · rw [if_pos e]
    rcases e with e | e
    · rcases Nat.lt_or_eq_of_le e with e' | e'
      · rw [if_pos (.inl (by omega))]
      · subst e'; rw [if_pos (.inr h)]
    · rw [if_pos (.inr e)]
  · rw [if_neg e, if_neg (fun e' => e (e'.imp (by omega) id))]
theorem stg_step {j : Nat} (hj : j < vs.length) (h : j ∉ F) : stg F tr sp vs (j + 1) = (stg F tr sp vs j).set j (dl tr sp (gv vs j)) := by
  apply List.ext_getElem?
  intro i
  rw [List.getElem?_set, stg_len]
  by_cases hi : i < vs.length
  · rw [stg_at hi, stg_at hi]
    by_cases e : j = i
    · subst e
      rw [if_neg (fun e => e.elim (by omega) h), if_pos rfl, if_pos hj]
    · rw [if_neg e]
      by_cases c : j ≤ i ∨ i ∈ F
      · rw [if_pos c, if_pos (c.imp (by omega) id)]
      · rw [if_neg c, if_neg (fun c' => c (c'.imp (by omega) id))]
  · rw [if_neg (by omega), List.getElem?_eq_none (by rw [stg_len]; omega), List.getElem?_eq_none (by rw [stg_len]; omega)]
end
theorem c7_in {K2 : Value → Value → Value → Value → Value → Value → Value → Value → Value → World → Prop} {v0 v1 v3 v4 : Int} {a2 a12 : Option Addr} {n2 c2 n12 c12 : Nat} {F : List Nat} {fa : Option Addr} {fc : Nat} (hr : Rd w fa (inV F)) (hF : F.length ≤ 8) (p : Nat)
    (hK : K2 (.int .i64 v0) (.int .i64 v1) (.slice a2 n2 c2) (.int .i64 v3) (.int .i64 v4) (.slice fa F.length fc) (.slice a12 n12 c12) (.int .i64 (p : Int)) (.bool (decide (p ∈ F))) w) :
    ∀ (i j k : Nat) (b : Bool), j + i = F.length → b = decide (p ∈ F.take j) → i < k →
    F7_1 K2 k (.int .i64 v0) (.int .i64 v1) (.slice a2 n2 c2) (.int .i64 v3) (.int .i64 v4) (.slice fa F.length fc) (.slice a12 n12 c12) (.int .i64 (p : Int)) (.bool b) (.int .i64 (j : Int)) w := by
  intro i
  induction i with
  | zero =>
    intro j k b hj hb hk
    obtain ⟨k, rfl⟩ : ∃ j, k = j + 1 := ⟨k - 1, by omega⟩
    show F7_1B _ _ _ _ _ _ _ _ _ _ _ _ _
    unfold F7_1B
    simp only [rdC_mk, rdI_mk, rdB_mk]
    rw [br_dec]
    have : j = F.length := by omega
    subst this
    rw [List.take_length] at hb
    subst hb
    exact ⟨fun h => by exfalso; omega, fun _ => hK⟩
  | succ i ih =>
    intro j k b hj hb hk
    obtain ⟨k, rfl⟩ : ∃ j, k = j + 1 := ⟨k - 1, by omega⟩
    show F7_1B _ _ _ _ _ _ _ _ _ _ _ _ _
    unfold F7_1B
    simp only [rdC_mk, rdI_mk, rdB_mk]
    rw [br_dec]
    refine ⟨fun _ => ?_, fun h => by exfalso; omega⟩
    obtain ⟨x, ex⟩ : ∃ x, F[j]? = some x := ⟨F[j]'(by omega), by simp⟩
    have ht : F.take (j + 1) = F.take j ++ [x] := by rw [List.take_add_one, ex]; rfl
    have e1 : IntKind.wrap .i64 ((j : Int) + 1) = ((j + 1 : Nat) : Int) := by rw [wrap_i64 (by omega) (by omega)]; omega
    rw [e1, br_iff]
    refine ⟨fun hbt => ?_, fun hbf => ?_⟩
    · refine ih (j + 1) k true (by omega) ?_ (by omega)
      rw [hb, decide_eq_true_eq] at hbt
      rw [ht]; simp [hbt]
    · obtain ⟨fd, hfd⟩ := hr.some (by rw [inV_length]; omega)
      subst hfd
      refine ixS_of (by omega) (by omega) ?_
      rw [Int.toNat_natCast, Nat.mul_one]
      refine ldI_c (hr.at (inV_at ex)) (ih (j + 1) k _ (by omega) ?_ (by omega))
      have : p ∉ F.take j := by rw [hb] at hbf; simpa using hbf
      rw [Bool.eq_iff_iff]
      simp only [beq_iff_eq, decide_eq_true_eq, ht, List.mem_append, List.mem_singleton]
      constructor
      · intro h; right; omega
      · rintro (h | h)
        · exact absurd h this
        · omega
theorem c7 (hv : Rd w va (vs.flatMap vwC)) (kind last tr sp : Int) (hlr : -9223372036854775808 ≤ last ∧ last ≤ 9223372036854775807) : Calls Try.prog 7 #[.int .i64 kind, .int .i64 last, .slice va vs.length vc, .int .i64 tr, .int .i64 sp] w (rt fun v w' => v = .bool true ∧ Same w w') := by
  refine F7_ok ?_
  unfold F7
  simp only [rdI_mk, rdC_mk]
  refine cl (c15 w) ?_
  rintro _ w1 ⟨rfl, s1⟩
  refine ⟨_, rfl, ?_⟩
  have h1 := (Hs.start w).same s1
  rw [show (!true) = false from rfl, br_false]
  refine cl (c14 (h1.rd_old hv)) ?_
  rintro _ w2 ⟨rfl, s2⟩
  refine ⟨_, rfl, ?_⟩
  have h2 := h1.same s2
  have e0 : ∀ x : Int, (x == x) = true := fun x => by simp
  rw [br_iff]
  refine ⟨fun _ => ⟨trivial, h2.1⟩, fun hb => ?_⟩
  have hc : chk vs = 0 := by simpa using hb
  rw [br_dec]; refine ⟨fun _ => ⟨trivial, h2.1⟩, fun t1 => ?_⟩
  rw [br_dec]; refine ⟨fun _ => ⟨trivial, h2.1⟩, fun t2 => ?_⟩
  rw [br_dec]; refine ⟨fun _ => ⟨trivial, h2.1⟩, fun t3 => ?_⟩
  rw [br_dec]; refine ⟨fun _ => ⟨trivial, h2.1⟩, fun t4 => ?_⟩
  obtain ⟨hn8, _⟩ := ok_of hc
  have ho := okAll_of hc
  unfold F7_3
  simp only [rdI_mk, rdC_mk]
  refine cl (c18 (h2.rd_old hv) hn8.2 ho) ?_
  rintro _ w3 ⟨fa, fc, rfl, o3, s3⟩
  refine ⟨_, _, _, rfl, _, _, _, _, run_b22 w3, ?_⟩
  have h3 := (h2.own_new s3 o3).void 42 4
  generalize w3.alloc (.cells #[] 42) = w4 at h3 ⊢
  have hfl := fit_len vs
  obtain ⟨vd, rfl⟩ := vw_some (i := 0) hv hn8.1
  refine h3.appendA E22 0 rfl (flat_length vwC_len vs) (h3.rd_old hv) (fun h => by cases h) (fun u hu => ?_) (by omega) (by omega) ?_
  · obtain ⟨v, _, hu⟩ := List.mem_flatMap.1 hu
    simp [vwC] at hu
    rcases hu with rfl | rfl | rfl | rfl <;> rfl
  intro ma mc w5 h5 _
  simp only [Nat.zero_add, List.nil_append, List.set_cons_zero] at h5 ⊢
  have loop : ∀ (i j : Nat) (w6 : World) (k : Nat) (K0 : Value → Value → Value → Value → World → Prop), j + i = vs.length → Hs w [slP 42 4 ma vs.length mc ((stg (fit vs) tr sp vs j).flatMap vwC), slP 3 1 fa (fit vs).length fc (inV (fit vs))] w6 → i < k →
      (∀ w', Hs w [slP 42 4 ma vs.length mc ((dull (fit vs) tr sp vs).flatMap vwC), slP 3 1 fa (fit vs).length fc (inV (fit vs))] w' → K0 (.int .i64 kind) (.int .i64 last) (.slice (some vd) vs.length vc) (.slice ma vs.length mc) w') →
      F7_2 K0 k (.int .i64 kind) (.int .i64 last) (.slice (some vd) vs.length vc) (.int .i64 tr) (.int .i64 sp) (.slice fa (fit vs).length fc) (.slice ma vs.length mc) (.int .i64 (j : Int)) w6 := by
    intro i
    induction i with
    | zero =>
      intro j w6 k K0 hj hw hk hK
      obtain ⟨k, rfl⟩ : ∃ j, k = j + 1 := ⟨k - 1, by omega⟩
      show F7_2B _ _ _ _ _ _ _ _ _ _ _
      unfold F7_2B
      simp only [rdC_mk, rdI_mk]
      rw [br_dec]
      have : j = vs.length := by omega
      subst this
      rw [stg_n] at hw
      exact ⟨fun h => by exfalso; omega, fun _ => hK w6 hw⟩
    | succ i ih =>
      intro j w6 k K0 hj hw hk hK
      obtain ⟨k, rfl⟩ : ∃ j, k = j + 1 := ⟨k - 1, by omega⟩
      show F7_2B _ _ _ _ _ _ _ _ _ _ _
      unfold F7_2B
      simp only [rdC_mk, rdI_mk]
      rw [br_dec]
      have hjl : j < vs.length := by omega
      refine ⟨fun _ => ⟨(fit vs).length + 1, ?_⟩, fun h => by exfalso; omega⟩
      refine c7_in (hw.rd 1 rfl) (by omega) j ?_ (fit vs).length 0 _ _ (by omega) (by simp) (by omega)
      intro _g
      simp only [rdC_mk, rdI_mk, rdB_mk]
      have e1 : IntKind.wrap .i64 ((j : Int) + 1) = ((j + 1 : Nat) : Int) := by rw [wrap_i64 (by omega) (by omega)]; omega
      rw [e1]
      by_cases hm : j ∈ fit vs
      · rw [show (!decide (j ∈ fit vs)) = false by simp [hm], br_false]
        refine ih (j + 1) w6 k K0 (by omega) ?_ (by omega) hK
        rw [stg_skip hm]; exact hw
      · rw [show (!decide (j ∈ fit vs)) = true by simp [hm], br_true]
        have hat : (stg (fit vs) tr sp vs j)[j]? = some (gv vs j) := by rw [stg_at hjl, if_pos (.inl (Nat.le_refl _))]
        have hlen : ((stg (fit vs) tr sp vs j).flatMap vwC).length = vs.length * 4 := by rw [flat_length vwC_len, stg_len]
        obtain ⟨md, hmd⟩ := (hw.rd 0 rfl).some (by rw [hlen]; omega)
        subst hmd
        refine ixS_of (by omega) (by omega) ?_
        rw [Int.toNat_natCast]
        simp only [add_add]
        refine hw.put 0 rfl (by rw [hlen]; omega) fun w7 h7 => ?_
        refine ixS_of (by omega) (by omega) ?_
        rw [Int.toNat_natCast]
        simp only [add_add]
        refine h7.put 0 rfl (by rw [List.length_set, hlen]; omega) fun w8 h8 => ?_
        refine ixS_of (by omega) (by omega) ?_
        rw [Int.toNat_natCast]
        simp only [add_add]
        refine h8.put 0 rfl (by rw [List.length_set, List.length_set, hlen]; omega) fun w9 h9 => ?_
        refine ih (j + 1) w9 k K0 (by omega) ?_ (by omega) hK
        have hset : ∀ (a : VW), ((stg (fit vs) tr sp vs j).set j a)[j]? = some a := fun a => by rw [List.getElem?_set, if_pos rfl, if_pos (by rw [stg_len]; exact hjl)]
        have f1 := flat_set (v := .int .i64 tr) (a' := { gv vs j with tr := tr }) vwC_len hat (j := 2) (by decide) rfl
        have f2 := flat_set (v := .int .i64 sp) (a' := { gv vs j with tr := tr, sp := sp }) vwC_len (hset { gv vs j with tr := tr }) (j := 1) (by decide) rfl
        have f3 := flat_set (v := .bool false) (a' := dl tr sp (gv vs j)) vwC_len (hset { gv vs j with tr := tr, sp := sp }) (j := 3) (by decide) rfl
        rw [List.set_set] at f2 f3
        rw [stg_step hjl hm, f3, f2, f1]
        exact h9
  refine ⟨vs.length + 1, loop vs.length 0 w5 _ _ (by omega) (by rw [stg_0]; exact h5) (by omega) fun w6 h6 _g => ?_⟩
  simp only [rdC_mk, rdI_mk]
  refine cl (c10 (h6.rd_old hv) kind last hlr) ?_
  rintro _ w7 ⟨rfl, s7⟩
  have h7 := h6.same s7
  refine ⟨_, _, _, rfl, ?_⟩
  have key := c10 (vs := dull (fit vs) tr sp vs) (vc := mc) (h7.rd 0 rfl) kind last hlr
  rw [dull_len, dull_next hc ⟨by omega, by omega⟩ ⟨by omega, by omega⟩] at key
  refine cl key ?_
  rintro _ w8 ⟨rfl, s8⟩
  refine ⟨_, _, _, rfl, ?_⟩
  have eb : ∀ x : Bool, (x == x) = true := fun x => by simp
  rw [e0, br_true, eb, br_true, e0]
  intro _g
  simp only [rdB_mk]
  exact ⟨trivial, (h7.same s8).1⟩
end
end Go.Proofs.Ytaiofglmcoojbaa
