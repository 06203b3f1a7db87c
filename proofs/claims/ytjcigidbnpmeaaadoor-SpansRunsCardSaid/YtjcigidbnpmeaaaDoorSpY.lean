/- Own text: part of the shallow reading of the code and of the contracts that are proved over it. -/
import Derived.Test.YtjcigidbnpmeaaaDoorSpX
namespace Go.Proofs.YtjcigidbnpmeaaaDoor
open Go Go.Sh Go.Sp

/-! the document's Add and Del -/
theorem ins_snoc_lt {d x : Nat} : ∀ {L : List Nat}, (∃ e ∈ L, d < e) → ins d (L ++ [x]) = ins d L ++ [x]
  | [], h => by obtain ⟨e, he, _⟩ := h; simp at he
  | y :: r, h => by
    obtain ⟨e, he, hlt⟩ := h
    rw [List.cons_append]
    unfold ins
    by_cases h1 : d < y
    · rw [if_pos h1, if_pos h1]; rfl
    · rw [if_neg h1, if_neg h1]
      by_cases h2 : d = y
      · rw [if_pos h2, if_pos h2]; rfl
      · rw [if_neg h2, if_neg h2, ins_snoc_lt]
        · rfl
        · rcases List.mem_cons.1 he with rfl | he
          · omega
          · exact ⟨e, he, hlt⟩
theorem ins_snoc_ge {d x : Nat} (hx : d < x) : ∀ {L : List Nat}, (∀ e ∈ L, e < d) → ins d (L ++ [x]) = L ++ [d] ++ [x]
  | [], _ => by simp [ins, hx]
  | y :: r, h => by
    have hy := h y (by simp)
    rw [List.cons_append]
    unfold ins
    rw [if_neg (by omega), if_neg (by omega), ins_snoc_ge hx fun e he => h e (List.mem_cons_of_mem _ he)]
    rfl
theorem goRun_le : ∀ (l : List Nat) (m : Nat), goRun m l ≤ m + l.length
  | [], m => by simp [goRun]
  | d :: r, m => by
    unfold goRun
    have := goRun_le r (m + 1)
    split <;> simp <;> omega
theorem goRun_drop : ∀ (l : List Nat) (m : Nat), l.Pairwise (· < ·) → (∀ d ∈ l, m + 1 ≤ d) → l.filter (goRun m l < ·) = l.drop (goRun m l - m)
  | [], m, _, _ => by simp
  | d :: r, m, h, hd => by
    rw [List.pairwise_cons] at h
    have h1 := hd d (by simp)
    by_cases hc : d = m + 1
    · have hg : goRun m (d :: r) = goRun (m + 1) r := by rw [goRun, if_pos hc]
      have hge := (goRun_spec r (m + 1) h.2 fun e he => by have := h.1 e he; omega).1
      rw [hg, List.filter_cons_of_neg (by simp; omega), goRun_drop r (m + 1) h.2 fun e he => by have := h.1 e he; omega]
      rw [show goRun (m + 1) r - m = (goRun (m + 1) r - (m + 1)) + 1 by omega, List.drop_succ_cons]
    · have hg : goRun m (d :: r) = m := by rw [goRun, if_neg hc]
      rw [hg, Nat.sub_self, List.drop_zero, List.filter_eq_self]
      intro e he
      have := hd e he
      simp; omega
section
variable {b : Nat} {a : Option Addr} {cum : Int} {S : List Nat}
/-- the list with a number more: as far as it was gone through -/
def half (S : List Nat) (d j : Nat) (done : Bool) : List Nat := if done then ins d (S.take j) else S.take j
structure Half (w0 : World) (S : List Nat) (d j : Nat) (done : Bool) (la : Option Addr) (l c : Nat) (w : World) : Prop where
  fr : Same w0 w
  own : Own w w0.heap.size 3 1 la l c (atV (half S d j done))
  yes : done = true → ∃ e ∈ S.take j, d < e
  no : done = false → ∀ e ∈ S.take j, e < d
theorem half_len {S : List Nat} {d j : Nat} (hd : d ∉ S) (done : Bool) : (half S d j done).length ≤ S.length + 1 := by
  unfold half
  have := List.length_take (i := j) (l := S)
  split
  · rw [ins_length (fun h => hd (List.mem_of_mem_take h))]; omega
  · omega
theorem own_push {w w0 : World} {la : Option Addr} {l c : Nat} {xs : List Value} {n : Int} {K : Option Addr → Nat → Nat → World → Prop} (hf : Same w0 w) (ho : Own w w0.heap.size 3 1 la l c xs) (hl : l ≤ 100000)
    (hk : ∀ a' c' w', Same w0 w' → Own w' w0.heap.size 3 1 a' (l + 1) c' (xs ++ [.int .i64 n]) → K a' (l + 1) c' w') :
    alc (.cells #[(.int .i64 n)] 3) w fun b12 w13 => ∃ l14a l14n l14c w15, Sem.run Tryd.prog (Builtin.append_ #[54, 54] 54 #[(.slice la l c), (.slice (some (Addr.mk b12 0 none)) 1 1)]) w13 = .ok (.slice l14a l14n l14c) w15 ∧ K l14a l14n l14c w15 := by
  unfold alc
  refine push E54 ho (news := #[_]) rfl (by simp [Value.oneCell']) (by omega) (by omega) hf.size ?_
  intro a2 c2 w2 q1 q2 q3
  exact hk a2 c2 w2 (((hf.mono (S' := fun k => w0.heap.size ≤ k) fun _ _ x => x.elim).trans q2 fun i _ x => (ho.base_le x).1).mono fun i hi x => by omega) q1
theorem r27_in {w0 : World} {d : Nat} (hd : d ∉ S) (hR : RefR w0 b a cum S) {K0 : Value → Value → Value → Value → World → Prop} : ∀ (i j : Nat) (w : World) (k : Nat) (done : Bool) (la : Option Addr) (l c : Nat), j + i = S.length → Half w0 S d j done la l c w → i < k →
    (∀ done la l c w', Half w0 S d S.length done la l c w' → K0 (.pointer (some ⟨b, 0, none⟩)) (.int .i64 (d : Int)) (.slice la l c) (.bool done) w') →
    F27_4 K0 k (.pointer (some ⟨b, 0, none⟩)) (.int .i64 (d : Int)) (.slice la l c) (.bool done) (.int .i64 (j : Int)) w := by
  have hlen := hR.len
  intro i
  induction i with
  | zero =>
    intro j w k done la l c hj H hk hK
    obtain ⟨k, rfl⟩ : ∃ j, k = j + 1 := ⟨k - 1, by omega⟩
    obtain ⟨c0, k1, k2⟩ := (hR.same H.fr).blk
    show F27_4B _ _ _ _ _ _ _ _
    unfold F27_4B
    simp only [rdP_mk, rdI_mk, rdC_mk, rdB_mk, nn_some, add_mk]
    refine ldC_at k1 rfl ?_
    simp only [br_dec]
    have : j = S.length := by omega
    subst this
    exact ⟨fun h => by exfalso; omega, fun _ => hK done la l c w H⟩
  | succ i ih =>
    intro j w k done la l c hj H hk hK
    obtain ⟨k, rfl⟩ : ∃ j, k = j + 1 := ⟨k - 1, by omega⟩
    have hR' := hR.same H.fr
    obtain ⟨c0, k1, k2⟩ := hR'.blk
    obtain ⟨x, hx⟩ : ∃ x, S[j]? = some x := ⟨S[j]'(by omega), by simp⟩
    have htake : S.take (j + 1) = S.take j ++ [x] := by rw [List.take_add_one, hx]; rfl
    have e1 : IntKind.wrap .i64 ((j : Int) + 1) = ((j + 1 : Nat) : Int) := by rw [wrap_i64 (by omega) (by omega)]; omega
    have hhl := half_len (j := j) hd done
    have hl : l = (half S d j done).length := by have := H.own.length; rw [atV_length] at this; omega
    have hxne : x ≠ d := fun e => hd (by rw [← e]; exact List.mem_of_getElem? hx)
    -- the join: the element itself is appended
    have join : ∀ (done' : Bool) (la' : Option Addr) (l' c' : Nat) (w' : World) (L : List Nat), Same w0 w' → Own w' w0.heap.size 3 1 la' l' c' (atV L) → l' ≤ 70000 → L ++ [x] = half S d (j + 1) done' → (done' = true → ∃ e ∈ S.take (j + 1), d < e) → (done' = false → ∀ e ∈ S.take (j + 1), e < d) →
        F27_2 (fun y0_15 y6_15 y7_15 y8_15 y9_15 w17 => ∀ _g18 : Tm, rdP y0_15 fun p19 => rdI .i64 y6_15 fun n20 => rdC y7_15 fun l21a l21n l21c => rdB y8_15 fun b22 => rdI .i64 y9_15 fun n23 => F27_4 K0 k (.pointer p19) (.int .i64 n20) (.slice l21a l21n l21c) (.bool b22) (.int .i64 (IntKind.wrap .i64 (n23 + 1))) w17) (.pointer (some ⟨b, 0, none⟩)) (.int .i64 (d : Int)) (.slice la' l' c') (.bool done') (.int .i64 (j : Int)) w' := by
      intro done' la' l' c' w' L hf ho hl' hL y n
      obtain ⟨c1, q1, q2⟩ := (hR.same hf).blk
      unfold F27_2
      simp only [rdP_mk, rdI_mk, rdC_mk, rdB_mk, nn_some, add_mk]
      refine ldC_at q1 rfl ?_
      have ha := q2.rd.some (by rw [atV_length]; omega)
      obtain ⟨ad, ha⟩ := ha
      rw [ha] at q2 ⊢
      refine ixS_of (by omega) (by omega) ?_
      simp only [Int.toNat_natCast, Nat.mul_one]
      refine ldI_c (q2.rd.at (atV_at hx)) (own_push hf ho (by omega) fun a2 c2 w2 hf2 ho2 _g => ?_)
      rw [e1]
      refine ih (j + 1) w2 k done' a2 (l' + 1) c2 (by omega) ⟨hf2, ?_, y, n⟩ (by omega) hK
      rw [← hL, atV_snoc]
      exact ho2
    show F27_4B _ _ _ _ _ _ _ _
    unfold F27_4B
    simp only [rdP_mk, rdI_mk, rdC_mk, rdB_mk, nn_some, add_mk]
    refine ldC_at k1 rfl ?_
    simp only [br_dec]
    refine ⟨fun _ => ?_, fun h => by exfalso; omega⟩
    cases done with
    | true =>
      simp only [Bool.not_true, br_false]
      refine join true la l c w _ H.fr H.own (by omega) ?_ (fun _ => ?_) fun h => by cases h
      · unfold half
        rw [if_pos rfl, if_pos rfl, htake, ins_snoc_lt (H.yes rfl)]
      · obtain ⟨e, he, h⟩ := H.yes rfl
        exact ⟨e, by rw [htake]; simp [he], h⟩
    | false =>
      simp only [Bool.not_false, br_true]
      refine ldC_at k1 rfl ?_
      have ha := k2.rd.some (by rw [atV_length]; omega)
      obtain ⟨ad, ha⟩ := ha
      rw [ha] at k2 ⊢
      refine ixS_of (by omega) (by omega) ?_
      simp only [Int.toNat_natCast, Nat.mul_one]
      refine ldI_c (k2.rd.at (atV_at hx)) ⟨fun hlt => ?_, fun hlt => ?_⟩
      · refine own_push H.fr H.own (by omega) fun a2 c2 w2 hf2 ho2 => ?_
        refine join true a2 (l + 1) c2 w2 (half S d j false ++ [d]) hf2 (by rw [atV_snoc]; exact ho2) (by omega) ?_ (fun _ => ⟨x, by rw [htake]; simp, by omega⟩) fun h => by cases h
        have hno := H.no rfl
        unfold half
        rw [if_neg (by simp), if_pos rfl, htake, ins_snoc_ge (by omega) hno]
      · refine join false la l c w _ H.fr H.own (by omega) ?_ (fun h => by cases h) fun _ e he => ?_
        · unfold half
          rw [if_neg (by simp), if_neg (by simp), htake]
        · rw [htake] at he
          rcases List.mem_append.1 he with he | he
          · exact H.no rfl e he
          · simp at he; subst he; omega
theorem r27_run {w : World} {L : List Nat} {la : Option Addr} {c base : Nat} (ho : Own w base 3 1 la L.length c (atV L)) (hL : L.length ≤ 65536) {K2 : Value → Value → Value → World → Prop} {p : Option Addr} : ∀ (i j : Nat) (k : Nat), j + i = L.length → goRun j (L.drop j) = goRun 0 L → i < k →
    K2 (.pointer p) (.slice la L.length c) (.int .i64 (goRun 0 L : Int)) w → F27_3 K2 k (.pointer p) (.slice la L.length c) (.int .i64 (j : Int)) w := by
  intro i
  induction i with
  | zero =>
    intro j k hj hg hk hK
    obtain ⟨k, rfl⟩ : ∃ j, k = j + 1 := ⟨k - 1, by omega⟩
    show F27_3B _ _ _ _ _ _
    unfold F27_3B
    simp only [rdP_mk, rdI_mk, rdC_mk, br_dec]
    rw [List.drop_eq_nil_of_le (by omega)] at hg
    rw [← hg] at hK
    exact ⟨fun h => by exfalso; omega, fun _ => hK⟩
  | succ i ih =>
    intro j k hj hg hk hK
    obtain ⟨k, rfl⟩ : ∃ j, k = j + 1 := ⟨k - 1, by omega⟩
    show F27_3B _ _ _ _ _ _
    unfold F27_3B
    simp only [rdP_mk, rdI_mk, rdC_mk, br_dec]
    refine ⟨fun _ => ?_, fun h => by exfalso; omega⟩
    obtain ⟨x, hx⟩ : ∃ x, L[j]? = some x := ⟨L[j]'(by omega), by simp⟩
    have hdrop : L.drop j = x :: L.drop (j + 1) := by
      have := List.getElem?_eq_getElem (l := L) (i := j) (by omega)
      rw [hx, Option.some.injEq] at this
      rw [List.drop_eq_getElem_cons (by omega), ← this]
    have hgr : goRun j (x :: L.drop (j + 1)) = if x = j + 1 then goRun (j + 1) (L.drop (j + 1)) else j := rfl
    rw [hdrop, hgr] at hg
    obtain ⟨ad, rfl⟩ := ho.rd.some (by rw [atV_length]; omega)
    refine ixS_of (by omega) (by omega) ?_
    simp only [Int.toNat_natCast, Nat.mul_one]
    refine ldI_c (ho.rd.at (atV_at hx)) ?_
    have e1 : IntKind.wrap .i64 ((j : Int) + 1) = ((j + 1 : Nat) : Int) := by rw [wrap_i64 (by omega) (by omega)]; omega
    rw [e1]
    by_cases hc : x = j + 1
    · have : ((x : Int) == ((j + 1 : Nat) : Int)) = true := by rw [beq_iff_eq]; omega
      rw [this, br_true]
      rw [if_pos hc] at hg
      exact ih (j + 1) k (by omega) hg (by omega) hK
    · have : ((x : Int) == ((j + 1 : Nat) : Int)) = false := by rw [beq_eq_false_iff_ne]; omega
      rw [this, br_false]
      rw [if_neg hc] at hg
      rw [← hg] at hK
      exact hK
/-- the rest goes into a new row -/
theorem r27_out {w1 : World} {L : List Nat} {la : Option Addr} {c base n : Nat} {cum' : Int} (ho : Own w1 base 3 1 la L.length c (atV L)) (hne : ¬ inB la b) (hL : L.length ≤ 65536) (hb : ∀ d ∈ L, d ≤ 65535) (hn : ∀ d ∈ L.drop n, n ≤ d) {K4 : World → Prop} : ∀ (i j : Nat) (w : World) (k : Nat) (sa : Option Addr) (sc : Nat) (T : List Nat),
    n + j + i = L.length → T = ((L.drop n).take j).map (· - n) → Fr (fun k => k = b ∨ w1.heap.size ≤ k) w1 w → w.heap[b]? = some (.cells #[.int .u32 cum', .slice sa T.length sc] 56 (0, 0)) → Own w (b + 1) 3 1 sa T.length sc (atV T) → (∀ k, inB sa k → w1.heap.size ≤ k) → i < k →
    (∀ w' sa' sc', Fr (fun k => k = b ∨ w1.heap.size ≤ k) w1 w' → w'.heap[b]? = some (.cells #[.int .u32 cum', .slice sa' ((L.drop n).map (· - n)).length sc'] 56 (0, 0)) → Own w' (b + 1) 3 1 sa' ((L.drop n).map (· - n)).length sc' (atV ((L.drop n).map (· - n))) → (∀ k, inB sa' k → w1.heap.size ≤ k) → K4 w') →
    F27_1 K4 k (.pointer (some ⟨b, 0, none⟩)) (.slice la L.length c) (.int .i64 (n : Int)) (.int .i64 ((n + j : Nat) : Int)) w := by
  intro i
  induction i with
  | zero =>
    intro j w k sa sc T hj hT hf hblk ht hsa hk hK
    obtain ⟨k, rfl⟩ : ∃ j, k = j + 1 := ⟨k - 1, by omega⟩
    show F27_1B _ _ _ _ _ _ _
    unfold F27_1B
    simp only [rdP_mk, rdI_mk, rdC_mk, br_dec]
    rw [List.take_of_length_le (by rw [List.length_drop]; omega)] at hT
    subst hT
    exact ⟨fun h => by exfalso; omega, fun _ => hK w sa sc hf hblk ht hsa⟩
  | succ i ih =>
    intro j w k sa sc T hj hT hf hblk ht hsa hk hK
    obtain ⟨k, rfl⟩ : ∃ j, k = j + 1 := ⟨k - 1, by omega⟩
    show F27_1B _ _ _ _ _ _ _
    unfold F27_1B drw alc
    simp only [rdP_mk, rdI_mk, rdC_mk, br_dec, nn_some, add_mk]
    refine ⟨fun _ => ?_, fun h => by exfalso; omega⟩
    have f0 : Same w w.drew := (Fr.refl w).drew
    refine ldC_at (w := w.drew) hblk rfl ?_
    have how := (ho.fr hf fun k hk x => by
      rcases x with rfl | x
      · exact hne hk
      · have := (ho.base_le hk).2; omega).fr f0 fun _ _ x => x
    obtain ⟨x, hx⟩ : ∃ x, L[n + j]? = some x := ⟨L[n + j]'(by omega), by simp⟩
    obtain ⟨ad, hla⟩ := how.rd.some (by rw [atV_length]; omega)
    rw [hla] at how ⊢
    refine ixS_of (by omega) (by omega) ?_
    simp only [Int.toNat_natCast, Nat.mul_one]
    refine ldI_c (how.rd.at (atV_at hx)) ⟨Pres.alloc _ _, ?_⟩
    have hxd : (L.drop n)[j]? = some x := by rw [List.getElem?_drop]; exact hx
    have hxn := hn x (List.mem_of_getElem? hxd)
    have hxb := hb x (List.mem_of_getElem? hx)
    have e0 : IntKind.wrap .i64 ((x : Int) - (n : Int)) = ((x - n : Nat) : Int) := by rw [wrap_i64 (by omega) (by omega)]; omega
    rw [e0]
    have hTl : T.length ≤ 65536 := by rw [hT]; simp; omega
    have hbl := lt_of_blk hblk
    refine push E54 (ht.fr f0 fun _ _ x => x) (news := #[_]) rfl (by simp [Value.oneCell']) (by omega) (by omega) (by simp; omega) ?_
    intro a2 c2 w2 q1 q2 q3
    have b2 := q2.blk (a := w.drew) hblk fun x => by have := (ht.base_le x).1; omega
    refine stc_at b2 (by simp) ?_
    generalize hw3 : sb w2 b _ = w3
    have f3 : Fr (fun k => k = b ∨ w1.heap.size ≤ k) w w3 := by
      rw [← hw3]
      exact ((f0.mono (S' := fun k => k = b ∨ w1.heap.size ≤ k) fun _ _ x => x.elim).trans q2 fun x _ hx => .inr (hsa x hx)).sb fun _ => .inl rfl
    have b3 : w3.heap[b]? = some (.cells #[.int .u32 cum', .slice a2 (T.length + 1) c2] 56 (0, 0)) := by rw [← hw3]; exact sb_same b2
    have o3 : Own w3 (b + 1) 3 1 a2 (T.length + 1) c2 (atV (T ++ [x - n])) := by
      rw [← hw3, atV_snoc]
      refine q1.fr ((Fr.refl w2).sb (S := (· = b)) fun _ => rfl) fun x hx e => ?_
      have := (q1.base_le hx).1
      omega
    clear hw3
    have e1 : IntKind.wrap .i64 (((n + j : Nat) : Int) + 1) = ((n + (j + 1) : Nat) : Int) := by rw [wrap_i64 (by omega) (by omega)]; omega
    rw [e1, ← hla]
    refine ih (j + 1) w3 k a2 c2 (T ++ [x - n]) (by omega) ?_ (hf.trans f3 fun x _ hx => hx) (by simpa using b3) (by simpa using o3) (fun x hx => ?_) (by omega) hK
    · rw [hT, List.take_add_one, hxd]; simp
    · rcases q3 x hx with h | h
      · exact hsa x h
      · have := hf.size; simp at h; omega
end
end Go.Proofs.YtjcigidbnpmeaaaDoor
