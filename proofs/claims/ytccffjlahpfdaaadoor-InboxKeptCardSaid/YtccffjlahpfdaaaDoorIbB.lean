/- Own text: part of the shallow reading of the code and of the contracts that are proved over it. -/
import Derived.Test.YtccffjlahpfdaaaDoorIbA
namespace Go.Proofs.YtccffjlahpfdaaaDoor
open Go Go.Sh Go.Sp
theorem um22 : Tryd.prog.underlying 22 = some (.int .u32) := by kernel_rfl
theorem um78 : Tryd.prog.underlying 78 = some (.map 22 3) := by kernel_rfl
theorem zm3 : (Tryd.prog.info? 3).bind (·.zero) = some (.int .i64 0) := by kernel_rfl
theorem run_b34 (w : World) : Sem.run Tryd.prog (Instr.buildSlice 34 0 #[]) w = .ok (.slice (some ⟨w.heap.size, 0, none⟩) 0 0) (w.alloc (.cells #[] 22)) := by kernel_rfl
theorem numV_nV (cum : Int) (S : List Nat) : numV cum S = nV (nums cum S) := numV_nums cum S
theorem nV_one (l : List Int) : ∀ u ∈ nV l, u.oneCell' = true := fun u hu => by
  obtain ⟨x, _, rfl⟩ := List.mem_map.1 hu
  rfl
/-! numbers above -/
theorem sd_num {cum t : Int} {d : Nat} (h0 : 0 ≤ cum) (h1 : cum < 4294967296) (hd : d ≤ 65535) (e : t = (cum + (d : Int)) % 4294967296) : sd cum t = d := by
  subst e; unfold sd; split <;> omega
theorem num_sd {cum t : Int} (h0 : 0 ≤ cum) (h1 : cum < 4294967296) (t0 : 0 ≤ t) (t1 : t < 4294967296) (hs : 0 ≤ sd cum t) : t = (cum + ((sd cum t).toNat : Int)) % 4294967296 := by
  unfold sd at *; split at hs <;> rename_i h <;> simp only [h, if_true, if_false] at * <;> omega
theorem mem_nums {cum t : Int} {S : List Nat} : t ∈ nums cum S ↔ ∃ d ∈ S, t = (cum + (d : Int)) % 4294967296 := by
  unfold nums; rw [List.mem_map]
  exact ⟨fun ⟨d, h, e⟩ => ⟨d, h, e.symm⟩, fun ⟨d, h, e⟩ => ⟨d, h, e.symm⟩⟩
theorem mem_nums_sd {cum t : Int} {S : List Nat} (h0 : 0 ≤ cum) (h1 : cum < 4294967296) (hS : ∀ d ∈ S, 2 ≤ d ∧ d ≤ 65535) (t0 : 0 ≤ t) (t1 : t < 4294967296) : t ∈ nums cum S ↔ (sd cum t).toNat ∈ S := by
  rw [mem_nums]
  constructor
  · rintro ⟨d, hd, e⟩
    rw [sd_num h0 h1 (hS d hd).2 e]; exact hd
  · intro h
    have := hS _ h
    exact ⟨_, h, num_sd h0 h1 t0 t1 (by omega)⟩
theorem del_same {d : Nat} {S : List Nat} (h : d ∉ S) : del d S = S := by
  unfold del
  rw [List.filter_eq_self]
  intro a ha
  simp only [bne_iff_ne, ne_eq]
  rintro rfl
  exact h ha
section
variable {W w : World} {L : List HP} {bb rr : Nat} {D : BD} {R : RD} {x : BX}
theorem box_open (h : Hs W (boxL bb D x ++ L) w) : ∃ m, SetR w D.s m x.cum x.S ∧ ∀ {w' : World} {m' : Nat} {cum' : Int} {S' : List Nat}, (m' = m ∨ w.heap.size ≤ m') → SetR w' D.s m' cum' S' → Fr (Bm D.s m) w w' → Hs W (boxL bb D { x with cum := cum', S := S' } ++ L) w' := by
  obtain ⟨m, hm, k⟩ := Hs.setR h 1 rfl
  exact ⟨m, hm, fun a b c => k a b c⟩
theorem ref_open (h : Hs W (refL rr R x ++ L) w) : ∃ a, RefR w R.s a x.cum x.S ∧ ∀ {w' : World} {a' : Option Addr} {cum' : Int} {S' : List Nat}, (∀ k, inB a' k → inB a k ∨ w.heap.size ≤ k) → RefR w' R.s a' cum' S' → Fr (fun k => k = R.s ∨ inB a k) w w' → Hs W (refL rr R { x with cum := cum', S := S' } ++ L) w' := by
  obtain ⟨a, ha, k⟩ := Hs.refR h 1 rfl
  exact ⟨a, ha, fun u v z => k u v z⟩
theorem box_rng (h : Hs W (boxL bb D x ++ L) w) : (∀ d ∈ x.S, 2 ≤ d ∧ d ≤ 65535) ∧ 0 ≤ x.cum ∧ x.cum < 4294967296 ∧ x.S.Pairwise (· < ·) := by
  obtain ⟨m, hm, _⟩ := box_open h
  exact ⟨hm.rng, hm.c0, hm.c1, hm.rising⟩
theorem ref_rng (h : Hs W (refL rr R x ++ L) w) : (∀ d ∈ x.S, 2 ≤ d ∧ d ≤ 65535) ∧ 0 ≤ x.cum ∧ x.cum < 4294967296 ∧ x.S.Pairwise (· < ·) := by
  obtain ⟨m, hm, _⟩ := ref_open h
  exact ⟨hm.rng, hm.c0, hm.c1, hm.rising⟩
theorem c34 (h : Hs W (boxL bb D x ++ L) w) : Calls Tryd.prog 34 #[.pointer (some ⟨bb, 0, none⟩)] w (rt (KR (.bool true) w)) := by
  refine F34_ok ?_
  unfold F34
  simp only [rdP_mk, Option.isNone_some, Bool.not_false, br_true, nn_some, add_mk]
  exact h.ldP 0 rfl rfl ⟨rfl, rfl⟩
theorem c39 (h : Hs W (boxL bb D x ++ L) w) (t : Int) : Calls Tryd.prog 39 #[.pointer (some ⟨bb, 0, none⟩), .int .u32 t] w (rt (KR (.bool (decide (t ∈ x.fx))) w)) := by
  refine F39_ok ?_
  unfold F39
  simp only [rdP_mk, rdI_mk, nn_some, add_mk]
  refine h.ldM 0 rfl rfl ⟨_, look_int um22 zm3 (h.map 2 rfl), ?_, rfl⟩
  unfold fxF
  by_cases ht : t ∈ x.fx <;> simp [ht]
theorem c78 {X : List Int} {a : Option Addr} {c : Nat} (hr : Rd w a (nV X)) (hl : X.length ≤ 281474976710656) (t : Int) : Calls Tryd.prog 78 #[.slice a X.length c, .int .u32 t] w (rt fun v w' => w' = w ∧ ∃ n : Int, v = .int .i64 n ∧ (0 ≤ n ↔ t ∈ X)) := by
  refine F78_ok ?_
  unfold F78
  simp only [rdC_mk, rdI_mk]
  have loop : ∀ (i j : Nat) (k : Nat) (K0 : World → Prop) (Kr : Value → World → Prop), j + i = X.length → t ∉ X.take j → i < k → (t ∉ X → K0 w) → (∀ j : Nat, t ∈ X → Kr (.int .i64 (j : Int)) w) → F78_1 K0 Kr k (.slice a X.length c) (.int .u32 t) (.int .i64 (X.length : Int)) (.int .i64 (j : Int)) w := by
    intro i
    induction i with
    | zero =>
      intro j k K0 Kr hj ht hk h0 h1
      obtain ⟨k, rfl⟩ : ∃ j, k = j + 1 := ⟨k - 1, by omega⟩
      show F78_1B _ _ _ _ _ _ _ _
      unfold F78_1B
      simp only [rdC_mk, rdI_mk]
      rw [br_dec]
      refine ⟨fun h => by exfalso; omega, fun _ => h0 ?_⟩
      rwa [List.take_of_length_le (by omega)] at ht
    | succ i ih =>
      intro j k K0 Kr hj ht hk h0 h1
      obtain ⟨k, rfl⟩ : ∃ j, k = j + 1 := ⟨k - 1, by omega⟩
      show F78_1B _ _ _ _ _ _ _ _
      unfold F78_1B
      simp only [rdC_mk, rdI_mk]
      rw [br_dec]
      refine ⟨fun _ => ?_, fun h => by exfalso; omega⟩
      obtain ⟨y, hy⟩ : ∃ y, X[j]? = some y := ⟨X[j]'(by omega), by simp⟩
      obtain ⟨ad, hod⟩ := hr.some (by rw [nV_length]; omega)
      subst hod
      refine ixS_of (by omega) (by omega) ?_
      rw [Int.toNat_natCast, Nat.mul_one]
      refine ldI_c (hr.at (nV_at hy)) ?_
      have e1 : IntKind.wrap .i64 ((j : Int) + 1) = ((j + 1 : Nat) : Int) := by rw [wrap_i64 (by omega) (by omega)]; omega
      have htk : X.take (j + 1) = X.take j ++ [y] := by rw [List.take_add_one, hy]; rfl
      rw [br_iff, e1]
      refine ⟨fun hb => h1 j ?_, fun hb => ih (j + 1) k K0 Kr (by omega) ?_ (by omega) h0 h1⟩
      · have : t = y := by simpa using hb
        subst this; exact List.mem_of_getElem? hy
      · have : t ≠ y := by simpa using hb
        rw [htk]; simp [ht, this]
  refine ⟨X.length + 1, loop X.length 0 _ _ _ (by omega) (by simp) (by omega) (fun hn _g => ⟨rfl, -1, rfl, by simp [hn]⟩) fun j ht _g => ?_⟩
  simp only [rdI_mk]
  exact ⟨trivial, j, rfl, by simp [ht]⟩
theorem c65 {X : List Int} {a : Option Addr} {c : Nat} (hr : Rd w a (nV X)) (hl : X.length ≤ 281474976710656) (t : Int) : Calls Tryd.prog 65 #[.slice a X.length c, .int .u32 t] w (rt (KR (.bool (decide (t ∈ X))) w)) := by
  refine F65_ok ?_
  unfold F65
  simp only [rdC_mk, rdI_mk]
  refine cl (c78 hr hl t) ?_
  rintro _ _ ⟨rfl, n, rfl, hn⟩
  refine ⟨_, rfl, ?_, rfl⟩
  congr 1
  rw [decide_eq_decide]
  exact hn
theorem c40 (ht : TB W) (h : Hs W (boxL bb D x ++ L) w) (t : Int) : Calls Tryd.prog 40 #[.pointer (some ⟨bb, 0, none⟩), .int .u32 t] w (rt fun v w' => v = .bool (decide (t ∈ nums x.cum x.S)) ∧ Hs W (boxL bb D x ++ L) w') := by
  refine F40_ok ?_
  unfold F40
  simp only [rdP_mk, rdI_mk, nn_some, add_mk]
  obtain ⟨m, hm, _⟩ := box_open h
  refine h.ldP 0 rfl rfl (cl (c55 (Hs.tb h ht) hm) ?_)
  rintro _ w1 ⟨a, c, rfl, o1, s1⟩
  refine ⟨_, _, _, rfl, ?_⟩
  have h1 := h.same s1
  rw [numV_nV] at o1
  have hlen := hm.len
  have key := c65 (c := c) o1.rd (by rw [nums_length]; omega) t
  rw [nums_length] at key
  exact clr key ⟨_, rfl, rfl, h1⟩
theorem c51 {X : List Int} {a : Option Addr} {c : Nat} (hr : Rd w a (nV X)) (hc : a = none → c = 0) (hl : X.length ≤ 1048576) : Calls Tryd.prog 51 #[.slice a X.length c] w (rt fun v w' => ∃ a' c', v = .slice a' X.length c' ∧ Own w' w.heap.size 22 1 a' X.length c' (nV X) ∧ Same w w') := by
  refine F51_ok ?_
  unfold F51
  simp only [rdC_mk]
  rw [br_iff]
  refine ⟨fun hn => ?_, fun hn => ?_⟩
  · have ha : a = none := by simpa using hn
    subst ha
    have hX : X = [] := by
      cases X with
      | nil => rfl
      | cons y r => obtain ⟨ad, e⟩ := hr.some (by simp [nV]); cases e
    subst hX
    exact ⟨none, 0, rfl, Own.nil _ _ _ _, Fr.refl w⟩
  · refine ⟨_, _, _, _, run_b34 w, ?_⟩
    have h1 := (Hs.start w).void 22 1
    generalize w.alloc (.cells #[] 22) = w1 at h1 ⊢
    refine h1.appendA E30 0 rfl (news := nV X) (m := X.length) (by rw [nV_length, Nat.mul_one]) (h1.rd_old hr) hc (nV_one X) (by omega) (by omega) ?_
    intro a' c' w2 h2 _
    simp only [Nat.zero_add, List.nil_append] at h2 ⊢
    exact ⟨a', c', rfl, h2.own 0 rfl, h2.1⟩
theorem c33 (h : Hs W (boxL bb D x ++ L) w) (hl : x.dup.length ≤ 1048576) : Calls Tryd.prog 33 #[.pointer (some ⟨bb, 0, none⟩)] w (rt fun v w' => ∃ a c, v = .slice a x.dup.length c ∧ Own w' w.heap.size 22 1 a x.dup.length c (nV x.dup) ∧ Same w w') := by
  refine F33_ok ?_
  unfold F33
  simp only [rdP_mk]
  refine clr (c34 h) ⟨_, rfl, ?_⟩
  simp only [Bool.not_true, br_false, nn_some, add_mk]
  have o := h.own 3 rfl
  refine h.ldC 0 rfl rfl (cl (c51 o.rd (fun e => ?_) hl) ?_)
  · rcases o.cases with ⟨_, _, e2⟩ | ⟨_, _, e2, _⟩
    · exact e2
    · rw [e2] at e; cases e
  rintro _ w1 ⟨a, c, rfl, o1, s1⟩
  exact ⟨_, _, _, rfl, a, c, rfl, o1, s1⟩
theorem c27 (ht : TB W) (h : Hs W (boxL bb D x ++ L) w) : Calls Tryd.prog 27 #[.pointer (some ⟨bb, 0, none⟩)] w (rt fun v w' => ∃ a c, v = .slice a x.S.length c ∧ Own w' w.heap.size 22 1 a x.S.length c (nV (nums x.cum x.S)) ∧ Same w w') := by
  refine F27_ok ?_
  unfold F27
  simp only [rdP_mk]
  refine clr (c34 h) ⟨_, rfl, ?_⟩
  simp only [Bool.not_true, br_false, nn_some, add_mk]
  obtain ⟨m, hm, _⟩ := box_open h
  refine h.ldP 0 rfl rfl (cl (c55 (Hs.tb h ht) hm) ?_)
  rintro _ w1 ⟨a, c, rfl, o1, s1⟩
  rw [numV_nV] at o1
  exact ⟨_, _, _, rfl, a, c, rfl, o1, s1⟩
theorem c24 (h : Hs W (boxL bb D x ++ L) w) : Calls Tryd.prog 24 #[.pointer (some ⟨bb, 0, none⟩)] w (rt (KR (.int .u32 x.cum) w)) := by
  refine F24_ok ?_
  unfold F24
  simp only [rdP_mk]
  refine clr (c34 h) ⟨_, rfl, ?_⟩
  simp only [Bool.not_true, br_false, nn_some, add_mk]
  obtain ⟨m, hm, _⟩ := box_open h
  exact h.ldP 0 rfl rfl (clr (c35 hm) ⟨_, rfl, rfl, rfl⟩)
theorem c20 (h : Hs W (boxL bb D x ++ L) w) (t : Int) : Calls Tryd.prog 20 #[.pointer (some ⟨bb, 0, none⟩), .int .u32 t] w (rt fun v w' => v = .bool (hasS x.cum x.S t) ∧ Same w w') := by
  refine F20_ok ?_
  unfold F20
  simp only [rdP_mk, rdI_mk]
  refine clr (c34 h) ⟨_, rfl, ?_⟩
  simp only [br_true, nn_some, add_mk]
  obtain ⟨m, hm, _⟩ := box_open h
  refine h.ldP 0 rfl rfl (cl (c53 hm t) ?_)
  rintro _ w1 ⟨rfl, s1⟩
  exact ⟨_, rfl, rfl, s1⟩
theorem c22 (h : Hs W (boxL bb D x ++ L) w) : Calls Tryd.prog 22 #[.pointer (some ⟨bb, 0, none⟩)] w (rt (KR (.tuple #[.int .i64 (if 0 ≤ x.due then x.due else 0), .bool (decide (0 ≤ x.due))]) w)) := by
  refine F22_ok ?_
  unfold F22
  simp only [rdP_mk]
  refine clr (c34 h) ⟨_, rfl, ?_⟩
  simp only [Bool.not_true, br_false, nn_some, add_mk]
  refine h.ldI 0 rfl rfl ?_
  rw [br_dec]
  refine ⟨fun hd => ?_, fun hd => h.ldI 0 rfl rfl ?_⟩
  · rw [if_neg (by omega), decide_eq_false (by omega)]; exact ⟨rfl, rfl⟩
  · rw [if_pos (by omega), decide_eq_true (by omega)]; exact ⟨rfl, rfl⟩
theorem c31 (h : Hs W (boxL bb D x ++ L) w) (t : Int) : Calls Tryd.prog 31 #[.pointer (some ⟨bb, 0, none⟩), .int .u32 t] w (rt fun v w' => v = .bool (!decide (t ∈ x.fx) && decide ((sd x.cum t).toNat ∈ x.S)) ∧ Hs W (boxL bb D { x with S := if t ∈ x.fx then x.S else del (sd x.cum t).toNat x.S } ++ L) w') := by
  refine F31_ok ?_
  unfold F31
  simp only [rdP_mk, rdI_mk]
  refine clr (c34 h) ⟨_, rfl, ?_⟩
  simp only [br_true]
  refine clr (c39 h t) ⟨_, rfl, ?_⟩
  by_cases hf : t ∈ x.fx
  · simp only [hf, decide_true, Bool.not_true, br_false, if_true, Bool.false_and]
    exact ⟨trivial, h⟩
  · simp only [hf, decide_false, Bool.not_false, br_true, if_false, Bool.true_and, nn_some, add_mk]
    obtain ⟨m, hm, k⟩ := box_open h
    refine h.ldP 0 rfl rfl (cl (c57 hm t) ?_)
    rintro _ w1 ⟨rfl, h1, f1⟩
    exact ⟨_, rfl, rfl, k (.inl rfl) h1 f1⟩
end
end Go.Proofs.YtccffjlahpfdaaaDoor
