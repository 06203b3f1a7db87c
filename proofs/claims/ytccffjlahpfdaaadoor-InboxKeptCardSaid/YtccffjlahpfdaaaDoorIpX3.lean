/- Own text: part of the shallow reading of the code and of the contracts that are proved over it. -/
import Derived.Test.YtccffjlahpfdaaaDoorIpX2
namespace Go.Proofs.YtccffjlahpfdaaaDoor
open Go Go.Sh Go.Sp

/-! the document's Add and Del -/
theorem ins_snoc_lt {d x : Nat} : ∀ {L : List Nat}, (∃ e ∈ L, d < e) → ins d (L ++ [x]) = ins d L ++ [x]
  | [], h => by obtain ⟨e, he, _⟩ := h; simp at he
  | y :: r, h => by
    obtain ⟨e, he, hlt⟩ := h
    rw [List.cons_append]
    unfold ins
    by_cases h1 : d < y
    · rw [if_pos h1, if_pos h1]; rfl
    · rw [if_neg h1, if_neg h1]
      by_cases h2 : d = y
      · rw [if_pos h2, if_pos h2]; rfl
      · rw [if_neg h2, if_neg h2, ins_snoc_lt]
        · rfl
        · rcases List.mem_cons.1 he with rfl | he
          · omega
          · exact ⟨e, he, hlt⟩
theorem ins_snoc_ge {d x : Nat} (hx : d < x) : ∀ {L : List Nat}, (∀ e ∈ L, e < d) → ins d (L ++ [x]) = L ++ [d] ++ [x]
  | [], _ => by simp [ins, hx]
  | y :: r, h => by
    have hy := h y (by simp)
    rw [List.cons_append]
    unfold ins
    rw [if_neg (by omega), if_neg (by omega), ins_snoc_ge hx fun e he => h e (List.mem_cons_of_mem _ he)]
    rfl
theorem goRun_le : ∀ (l : List Nat) (m : Nat), goRun m l ≤ m + l.length
  | [], m => by simp [goRun]
  | d :: r, m => by
    unfold goRun
    have := goRun_le r (m + 1)
    split <;> simp <;> omega
theorem goRun_drop : ∀ (l : List Nat) (m : Nat), l.Pairwise (· < ·) → (∀ d ∈ l, m + 1 ≤ d) → l.filter (goRun m l < ·) = l.drop (goRun m l - m)
  | [], m, _, _ => by simp
  | d :: r, m, h, hd => by
    rw [List.pairwise_cons] at h
    have h1 := hd d (by simp)
    by_cases hc : d = m + 1
    · have hg : goRun m (d :: r) = goRun (m + 1) r := by rw [goRun, if_pos hc]
      have hge := (goRun_spec r (m + 1) h.2 fun e he => by have := h.1 e he; omega).1
      rw [hg, List.filter_cons_of_neg (by simp; omega), goRun_drop r (m + 1) h.2 fun e he => by have := h.1 e he; omega]
      rw [show goRun (m + 1) r - m = (goRun (m + 1) r - (m + 1)) + 1 by omega, List.drop_succ_cons]
    · have hg : goRun m (d :: r) = m := by rw [goRun, if_neg hc]
      rw [hg, Nat.sub_self, List.drop_zero, List.filter_eq_self]
      intro e he
      have := hd e he
      simp; omega
section
variable {b : Nat} {a : Option Addr} {cum : Int} {S : List Nat}
/-- the list with a number more: as far as it was gone through -/
def half (S : List Nat) (d j : Nat) (done : Bool) : List Nat := if done then ins d (S.take j) else S.take j
structure Half (w0 : World) (S : List Nat) (d j : Nat) (done : Bool) (la : Option Addr) (l c : Nat) (w : World) : Prop where
  fr : Same w0 w
  own : Own w w0.heap.size 3 1 la l c (atV (half S d j done))
  yes : done = true → ∃ e ∈ S.take j, d < e
  no : done = false → ∀ e ∈ S.take j, e < d
theorem half_len {S : List Nat} {d j : Nat} (hd : d ∉ S) (done : Bool) : (half S d j done).length ≤ S.length + 1 := by
  unfold half
  have := List.length_take (i := j) (l := S)
  split
  · rw [ins_length (fun h => hd (List.mem_of_mem_take h))]; omega
  · omega
theorem own_push {w w0 : World} {la : Option Addr} {l c : Nat} {xs : List Value} {n : Int} {K : Option Addr → Nat → Nat → World → Prop} (hf : Same w0 w) (ho : Own w w0.heap.size 3 1 la l c xs) (hl : l ≤ 100000)
    (hk : ∀ a' c' w', Same w0 w' → Own w' w0.heap.size 3 1 a' (l + 1) c' (xs ++ [.int .i64 n]) → K a' (l + 1) c' w') :
    alc (.cells #[(.int .i64 n)] 3) w fun b12 w13 => ∃ l14a l14n l14c w15, Sem.run Tryd.prog (Builtin.append_ #[30, 30] 30 #[(.slice la l c), (.slice (some (Addr.mk b12 0 none)) 1 1)]) w13 = .ok (.slice l14a l14n l14c) w15 ∧ K l14a l14n l14c w15 := by
  unfold alc
  refine push E54 ho (news := #[_]) rfl (by simp [Value.oneCell']) (by omega) (by omega) hf.size ?_
  intro a2 c2 w2 q1 q2 q3
  exact hk a2 c2 w2 (((hf.mono (S' := fun k => w0.heap.size ≤ k) fun _ _ x => x.elim).trans q2 fun i _ x => (ho.base_le x).1).mono fun i hi x => by omega) q1
theorem r37_in {w0 : World} {d : Nat} (hd : d ∉ S) (hR : RefR w0 b a cum S) {K0 : Value → Value → Value → Value → World → Prop} : ∀ (i j : Nat) (w : World) (k : Nat) (done : Bool) (la : Option Addr) (l c : Nat), j + i = S.length → Half w0 S d j done la l c w → i < k →
    (∀ done la l c w', Half w0 S d S.length done la l c w' → K0 (.pointer (some ⟨b, 0, none⟩)) (.int .i64 (d : Int)) (.slice la l c) (.bool done) w') →
    F37_4 K0 k (.pointer (some ⟨b, 0, none⟩)) (.int .i64 (d : Int)) (.slice la l c) (.bool done) (.int .i64 (j : Int)) w := by
  have hlen := hR.len
  intro i
  induction i with
  | zero =>
    intro j w k done la l c hj H hk hK
    obtain ⟨k, rfl⟩ : ∃ j, k = j + 1 := ⟨k - 1, by omega⟩
    obtain ⟨c0, k1, k2⟩ := (hR.same H.fr).blk
    show F37_4B _ _ _ _ _ _ _ _
    unfold F37_4B
    simp only [rdP_mk, rdI_mk, rdC_mk, rdB_mk, nn_some, add_mk]
    refine ldC_at k1 rfl ?_
    simp only [br_dec]
    have : j = S.length := by omega
    subst this
    exact ⟨fun h => by exfalso; omega, fun _ => hK done la l c w H⟩
  | succ i ih =>
    intro j w k done la l c hj H hk hK
    obtain ⟨k, rfl⟩ : ∃ j, k = j + 1 := ⟨k - 1, by omega⟩
    have hR' := hR.same H.fr
    obtain ⟨c0, k1, k2⟩ := hR'.blk
    obtain ⟨x, hx⟩ : ∃ x, S[j]? = some x := ⟨S[j]'(by omega), by simp⟩
    have htake : S.take (j + 1) = S.take j ++ [x] := by rw [List.take_add_one, hx]; rfl
    have e1 : IntKind.wrap .i64 ((j : Int) + 1) = ((j + 1 : Nat) : Int) := by rw [wrap_i64 (by omega) (by omega)]; omega
    have hhl := half_len (j := j) hd done
    have hl : l = (half S d j done).length := by have := H.own.length; rw [atV_length] at this; omega
    have hxne : x ≠ d := fun e => hd (by rw [← e]; exact List.mem_of_getElem? hx)
    -- the join: the element itself is appended
    have join : ∀ (done' : Bool) (la' : Option Addr) (l' c' : Nat) (w' : World) (L : List Nat), Same w0 w' → Own w' w0.heap.size 3 1 la' l' c' (atV L) → l' ≤ 70000 → L ++ [x] = half S d (j + 1) done' → (done' = true → ∃ e ∈ S.take (j + 1), d < e) → (done' = false → ∀ e ∈ S.take (j + 1), e < d) →
        F37_2 (fun y0_15 y6_15 y7_15 y8_15 y9_15 w17 => ∀ _g18 : Tm, rdP y0_15 fun p19 => rdI .i64 y6_15 fun n20 => rdC y7_15 fun l21a l21n l21c => rdB y8_15 fun b22 => rdI .i64 y9_15 fun n23 => F37_4 K0 k (.pointer p19) (.int .i64 n20) (.slice l21a l21n l21c) (.bool b22) (.int .i64 (IntKind.wrap .i64 (n23 + 1))) w17) (.pointer (some ⟨b, 0, none⟩)) (.int .i64 (d : Int)) (.slice la' l' c') (.bool done') (.int .i64 (j : Int)) w' := by
      intro done' la' l' c' w' L hf ho hl' hL y n
      obtain ⟨c1, q1, q2⟩ := (hR.same hf).blk
      unfold F37_2
      simp only [rdP_mk, rdI_mk, rdC_mk, rdB_mk, nn_some, add_mk]
      refine ldC_at q1 rfl ?_
      have ha := q2.rd.some (by rw [atV_length]; omega)
      obtain ⟨ad, ha⟩ := ha
      rw [ha] at q2 ⊢
      refine ixS_of (by omega) (by omega) ?_
      simp only [Int.toNat_natCast, Nat.mul_one]
      refine ldI_c (q2.rd.at (atV_at hx)) (own_push hf ho (by omega) fun a2 c2 w2 hf2 ho2 _g => ?_)
      rw [e1]
      refine ih (j + 1) w2 k done' a2 (l' + 1) c2 (by omega) ⟨hf2, ?_, y, n⟩ (by omega) hK
      rw [← hL, atV_snoc]
      exact ho2
    show F37_4B _ _ _ _ _ _ _ _
    unfold F37_4B
    simp only [rdP_mk, rdI_mk, rdC_mk, rdB_mk, nn_some, add_mk]
    refine ldC_at k1 rfl ?_
    simp only [br_dec]
    refine ⟨fun _ => ?_, fun h => by exfalso; omega⟩
    cases done with
    | true =>
      simp only [Bool.not_true, br_false]
      refine join true la l c w _ H.fr H.own (by omega) ?_ (fun _ => ?_) fun h => by cases h
      · unfold half
        rw [if_pos rfl, if_pos rfl, htake, ins_snoc_lt (H.yes rfl)]
      · obtain ⟨e, he, h⟩ := H.yes rfl
        exact ⟨e, by rw [htake]; simp [he], h⟩
    | false =>
      simp only [Bool.not_false, br_true]
      refine ldC_at k1 rfl ?_
      have ha := k2.rd.some (by rw [atV_length]; omega)
      obtain ⟨ad, ha⟩ := ha
      rw [ha] at k2 ⊢
      refine ixS_of (by omega) (by omega) ?_
      simp only [Int.toNat_natCast, Nat.mul_one]
      refine ldI_c (k2.rd.at (atV_at hx)) ⟨fun hlt => ?_, fun hlt => ?_⟩
      · refine own_push H.fr H.own (by omega) fun a2 c2 w2 hf2 ho2 => ?_
        refine join true a2 (l + 1) c2 w2 (half S d j false ++ [d]) hf2 (by rw [atV_snoc]; exact ho2) (by omega) ?_ (fun _ => ⟨x, by rw [htake]; simp, by omega⟩) fun h => by cases h
        have hno := H.no rfl
        unfold half
        rw [if_neg (by simp), if_pos rfl, htake, ins_snoc_ge (by omega) hno]
      · refine join false la l c w _ H.fr H.own (by omega) ?_ (fun h => by cases h) fun _ e he => ?_
        · unfold half
          rw [if_neg (by simp), if_neg (by simp), htake]
        · rw [htake] at he
          rcases List.mem_append.1 he with he | he
          · exact H.no rfl e he
          · simp at he; subst he; omega
theorem r37_run {w : World} {L : List Nat} {la : Option Addr} {c base : Nat} (ho : Own w base 3 1 la L.length c (atV L)) (hL : L.length ≤ 65536) {K2 : Value → Value → Value → World → Prop} {p : Option Addr} : ∀ (i j : Nat) (k : Nat), j + i = L.length → goRun j (L.drop j) = goRun 0 L → i < k →
    K2 (.pointer p) (.slice la L.length c) (.int .i64 (goRun 0 L : Int)) w → F37_3 K2 k (.pointer p) (.slice la L.length c) (.int .i64 (j : Int)) w := by
  intro i
  induction i with
  | zero =>
    intro j k hj hg hk hK
    obtain ⟨k, rfl⟩ : ∃ j, k = j + 1 := ⟨k - 1, by omega⟩
    show F37_3B _ _ _ _ _ _
    unfold F37_3B
    simp only [rdP_mk, rdI_mk, rdC_mk, br_dec]
    rw [List.drop_eq_nil_of_le (by omega)] at hg
    rw [← hg] at hK
    exact ⟨fun h => by exfalso; omega, fun _ => hK⟩
  | succ i ih =>
    intro j k hj hg hk hK
    obtain ⟨k, rfl⟩ : ∃ j, k = j + 1 := ⟨k - 1, by omega⟩
    show F37_3B _ _ _ _ _ _
    unfold F37_3B
    simp only [rdP_mk, rdI_mk, rdC_mk, br_dec]
    refine ⟨fun _ => ?_, fun h => by exfalso; omega⟩
    obtain ⟨x, hx⟩ : ∃ x, L[j]? = some x := ⟨L[j]'(by omega), by simp⟩
    have hdrop : L.drop j = x :: L.drop (j + 1) := by
      have := List.getElem?_eq_getElem (l := L) (i := j) (by omega)
      rw [hx, Option.some.injEq] at this
      rw [List.drop_eq_getElem_cons (by omega), ← this]
    have hgr : goRun j (x :: L.drop (j + 1)) = if x = j + 1 then goRun (j + 1) (L.drop (j + 1)) else j := rfl
    rw [hdrop, hgr] at hg
    obtain ⟨ad, rfl⟩ := ho.rd.some (by rw [atV_length]; omega)
    refine ixS_of (by omega) (by omega) ?_
    simp only [Int.toNat_natCast, Nat.mul_one]
    refine ldI_c (ho.rd.at (atV_at hx)) ?_
    have e1 : IntKind.wrap .i64 ((j : Int) + 1) = ((j + 1 : Nat) : Int) := by rw [wrap_i64 (by omega) (by omega)]; omega
    rw [e1]
    by_cases hc : x = j + 1
    · have : ((x : Int) == ((j + 1 : Nat) : Int)) = true := by rw [beq_iff_eq]; omega
      rw [this, br_true]
      rw [if_pos hc] at hg
      exact ih (j + 1) k (by omega) hg (by omega) hK
    · have : ((x : Int) == ((j + 1 : Nat) : Int)) = false := by rw [beq_eq_false_iff_ne]; omega
      rw [this, br_false]
      rw [if_neg hc] at hg
      rw [← hg] at hK
      exact hK
/-- the rest goes into a new row -/
theorem r37_out {w1 : World} {L : List Nat} {la : Option Addr} {c base n : Nat} {cum' : Int} (ho : Own w1 base 3 1 la L.length c (atV L)) (hne : ¬ inB la b) (hL : L.length ≤ 65536) (hb : ∀ d ∈ L, d ≤ 65535) (hn : ∀ d ∈ L.drop n, n ≤ d) {K4 : World → Prop} : ∀ (i j : Nat) (w : World) (k : Nat) (sa : Option Addr) (sc : Nat) (T : List Nat),
    n + j + i = L.length → T = ((L.drop n).take j).map (· - n) → Fr (fun k => k = b ∨ w1.heap.size ≤ k) w1 w → w.heap[b]? = some (.cells #[.int .u32 cum', .slice sa T.length sc] 32 (0, 0)) → Own w (b + 1) 3 1 sa T.length sc (atV T) → (∀ k, inB sa k → w1.heap.size ≤ k) → i < k →
    (∀ w' sa' sc', Fr (fun k => k = b ∨ w1.heap.size ≤ k) w1 w' → w'.heap[b]? = some (.cells #[.int .u32 cum', .slice sa' ((L.drop n).map (· - n)).length sc'] 32 (0, 0)) → Own w' (b + 1) 3 1 sa' ((L.drop n).map (· - n)).length sc' (atV ((L.drop n).map (· - n))) → (∀ k, inB sa' k → w1.heap.size ≤ k) → K4 w') →
    F37_1 K4 k (.pointer (some ⟨b, 0, none⟩)) (.slice la L.length c) (.int .i64 (n : Int)) (.int .i64 ((n + j : Nat) : Int)) w := by
  intro i
  induction i with
  | zero =>
    intro j w k sa sc T hj hT hf hblk ht hsa hk hK
    obtain ⟨k, rfl⟩ : ∃ j, k = j + 1 := ⟨k - 1, by omega⟩
    show F37_1B _ _ _ _ _ _ _
    unfold F37_1B
    simp only [rdP_mk, rdI_mk, rdC_mk, br_dec]
    rw [List.take_of_length_le (by rw [List.length_drop]; omega)] at hT
    subst hT
    exact ⟨fun h => by exfalso; omega, fun _ => hK w sa sc hf hblk ht hsa⟩
  | succ i ih =>
    intro j w k sa sc T hj hT hf hblk ht hsa hk hK
    obtain ⟨k, rfl⟩ : ∃ j, k = j + 1 := ⟨k - 1, by omega⟩
    show F37_1B _ _ _ _ _ _ _
    unfold F37_1B drw alc
    simp only [rdP_mk, rdI_mk, rdC_mk, br_dec, nn_some, add_mk]
    refine ⟨fun _ => ?_, fun h => by exfalso; omega⟩
    have f0 : Same w w.drew := (Fr.refl w).drew
    refine ldC_at (w := w.drew) hblk rfl ?_
    have how := (ho.fr hf fun k hk x => by
      rcases x with rfl | x
      · exact hne hk
      · have := (ho.base_le hk).2; omega).fr f0 fun _ _ x => x
    obtain ⟨x, hx⟩ : ∃ x, L[n + j]? = some x := ⟨L[n + j]'(by omega), by simp⟩
    obtain ⟨ad, hla⟩ := how.rd.some (by rw [atV_length]; omega)
    rw [hla] at how ⊢
    refine ixS_of (by omega) (by omega) ?_
    simp only [Int.toNat_natCast, Nat.mul_one]
    refine ldI_c (how.rd.at (atV_at hx)) ⟨Pres.alloc _ _, ?_⟩
    have hxd : (L.drop n)[j]? = some x := by rw [List.getElem?_drop]; exact hx
    have hxn := hn x (List.mem_of_getElem? hxd)
    have hxb := hb x (List.mem_of_getElem? hx)
    have e0 : IntKind.wrap .i64 ((x : Int) - (n : Int)) = ((x - n : Nat) : Int) := by rw [wrap_i64 (by omega) (by omega)]; omega
    rw [e0]
    have hTl : T.length ≤ 65536 := by rw [hT]; simp; omega
    have hbl := lt_of_blk hblk
    refine push E54 (ht.fr f0 fun _ _ x => x) (news := #[_]) rfl (by simp [Value.oneCell']) (by omega) (by omega) (by simp; omega) ?_
    intro a2 c2 w2 q1 q2 q3
    have b2 := q2.blk (a := w.drew) hblk fun x => by have := (ht.base_le x).1; omega
    refine stc_at b2 (by simp) ?_
    generalize hw3 : sb w2 b _ = w3
    have f3 : Fr (fun k => k = b ∨ w1.heap.size ≤ k) w w3 := by
      rw [← hw3]
      exact ((f0.mono (S' := fun k => k = b ∨ w1.heap.size ≤ k) fun _ _ x => x.elim).trans q2 fun x _ hx => .inr (hsa x hx)).sb fun _ => .inl rfl
    have b3 : w3.heap[b]? = some (.cells #[.int .u32 cum', .slice a2 (T.length + 1) c2] 32 (0, 0)) := by rw [← hw3]; exact sb_same b2
    have o3 : Own w3 (b + 1) 3 1 a2 (T.length + 1) c2 (atV (T ++ [x - n])) := by
      rw [← hw3, atV_snoc]
      refine q1.fr ((Fr.refl w2).sb (S := (· = b)) fun _ => rfl) fun x hx e => ?_
      have := (q1.base_le hx).1
      omega
    clear hw3
    have e1 : IntKind.wrap .i64 (((n + j : Nat) : Int) + 1) = ((n + (j + 1) : Nat) : Int) := by rw [wrap_i64 (by omega) (by omega)]; omega
    rw [e1, ← hla]
    refine ih (j + 1) w3 k a2 c2 (T ++ [x - n]) (by omega) ?_ (hf.trans f3 fun x _ hx => hx) (by simpa using b3) (by simpa using o3) (fun x hx => ?_) (by omega) hK
    · rw [hT, List.take_add_one, hxd]; simp
    · rcases q3 x hx with h | h
      · exact hsa x h
      · have := hf.size; simp at h; omega
end
end Go.Proofs.YtccffjlahpfdaaaDoor

namespace Go.Proofs.YtccffjlahpfdaaaDoor
open Go Go.Sh Go.Sp
section
variable {b : Nat} {a : Option Addr} {cum : Int} {S : List Nat}
theorem r37_fin {w w1 : World} {L : List Nat} {la : Option Addr} {c : Nat} (hR : RefR w b a cum S) (hf : Same w w1) (ho : Own w1 w.heap.size 3 1 la L.length c (atV L)) (hL : L.length ≤ 65536) (hri : L.Pairwise (· < ·)) (hb : ∀ d ∈ L, 1 ≤ d ∧ d ≤ 65535) {Kr : Value → Value → World → Prop}
    (hK : ∀ w' sa, RefR w' b sa ((cum + (goRun 0 L : Int)) % 4294967296) (shift (goRun 0 L) L) → (∀ k, inB sa k → w.heap.size ≤ k) → Fr (· = b) w w' → Kr (.bool true) (.int .i64 0) w') :
    F37_5 Kr (.pointer (some ⟨b, 0, none⟩)) (.slice la L.length c) w1 := by
  have hc0 := hR.c0
  have hc1 := hR.c1
  have hbl := hR.blt
  obtain ⟨g1, g2, g3⟩ := goRun_spec L 0 hri fun d hd => by have := hb d hd; omega
  have gle := goRun_le L 0
  have gd := goRun_drop L 0 hri fun d hd => by have := hb d hd; omega
  rw [Nat.sub_zero] at gd
  unfold F37_5
  simp only [rdP_mk, rdC_mk]
  refine ⟨L.length + 1, r37_run ho hL L.length 0 _ (by omega) rfl (by omega) fun _g => ?_⟩
  simp only [rdP_mk, rdI_mk, rdC_mk, nn_some, add_mk]
  obtain ⟨c0, k1, k2⟩ := (hR.same hf).blk
  refine ldI_at k1 rfl ?_
  rw [wrap_u32 (n := (goRun 0 L : Int)) (by omega) (by omega)]
  refine clr (c9 _ _ _ hc0 hc1 (by omega) (by omega)) ⟨_, rfl, ?_⟩
  refine stc_at k1 (by simp) (stc_at (sb_same k1) (by simp) ?_)
  generalize hw2 : sb (sb w1 b _) b _ = w2
  have b2 : w2.heap[b]? = some (.cells #[.int .u32 ((cum + (goRun 0 L : Int)) % 4294967296), .slice none 0 0] 32 (0, 0)) := by rw [← hw2]; exact sb_same (sb_same k1)
  have f2 : Fr (· = b) w1 w2 := by rw [← hw2]; exact (((Fr.refl (S := (· = b)) w1).sb (b := b) fun _ => rfl).sb (b := b) fun _ => rfl)
  have z2 : w2.heap.size = w1.heap.size := by rw [← hw2]; simp
  clear hw2
  have hsz := hf.size
  have ho2 := ho.fr f2 fun k hk x => by have := (ho.base_le hk).1; omega
  have hdrop : ∀ d ∈ L.drop (goRun 0 L), goRun 0 L < d := fun d hd => by rw [← gd] at hd; have := (List.mem_filter.1 hd).2; simpa using this
  have hsh : (L.drop (goRun 0 L)).map (· - goRun 0 L) = shift (goRun 0 L) L := by rw [← gd]; rfl
  have start : Own w2 (b + 1) 3 1 none 0 0 (atV []) := Own.nil _ _ _ _
  refine ⟨L.length + 1, ?_⟩
  refine r37_out (w1 := w2) (base := w.heap.size) ho2 (fun x => ?_) hL (fun d hd => (hb d hd).2) (fun d hd => Nat.le_of_lt (hdrop d hd)) (L.length - goRun 0 L) 0 w2 _ none 0 [] (by omega) (by simp) (Fr.refl _) b2 start (fun k ⟨_, e, _⟩ => by cases e) (by omega) fun w3 sa sc f3 b3 o3 hsa _g => ?_
  · have := (ho.base_le x).1; omega
  · rw [hsh] at b3 o3
    refine hK w3 sa ⟨⟨sc, b3, o3⟩, shift_rising hri, fun d hd => ?_, by omega, by omega⟩ (fun k hk => by have := hsa k hk; omega) ?_
    · obtain ⟨m1, m2⟩ := mem_shift.1 hd
      have := hb _ m2
      refine ⟨?_, by omega⟩
      rcases Nat.lt_or_ge d 2 with h3 | h3
      · exfalso
        have : d = 1 := by omega
        subst this
        exact g3 (by rwa [Nat.add_comm])
      · exact h3
    · have h1 : Fr (· = b) w w2 := (hf.mono (S' := (· = b)) fun _ _ x => x.elim).trans f2 fun _ _ x => x
      exact ((h1.mono (S' := fun k => k = b ∨ w2.heap.size ≤ k) fun _ _ x => .inl x).trans f3 fun _ _ x => x).mono fun i hi x => by rcases x with x | x <;> omega
theorem r37 {w : World} (hR : RefR w b a cum S) {t : Int} (h0 : 0 ≤ t) (h1 : t < 4294967296) :
    Calls Tryd.prog 37 #[.pointer (some ⟨b, 0, none⟩), .int .u32 t] w (rt fun v w' => v = .tuple #[.bool (addR cum S t).1, .int .i64 (addR cum S t).2] ∧ ∃ a', RefR w' b a' (addC cum S t) (addS cum S t) ∧ (a' = a ∨ ∀ k, inB a' k → w.heap.size ≤ k) ∧ Fr (· = b) w w') := by
  have hc0 := hR.c0
  have hc1 := hR.c1
  have hlen := hR.len
  obtain ⟨c, k1, k2⟩ := hR.blk
  refine F37_ok ?_
  unfold F37
  simp only [rdP_mk, rdI_mk, nn_some, add_mk]
  refine ldI_at k1 rfl (clr (c18 _ _ _ hc0 hc1 h0 h1) ⟨_, rfl, clr (r48 hR h0 h1) ⟨_, rfl, ?_⟩⟩)
  have keep : addC cum S t = cum → addS cum S t = S → ∃ a', RefR w b a' (addC cum S t) (addS cum S t) ∧ (a' = a ∨ ∀ k, inB a' k → w.heap.size ≤ k) ∧ Fr (· = b) w w := fun e1 e2 => ⟨a, by rw [e1, e2]; exact hR, .inl rfl, Fr.refl w⟩
  by_cases hh : hasS cum S t = true
  · rw [hh, br_true]
    unfold hasS at hh
    simp only [Bool.or_eq_true, decide_eq_true_eq] at hh
    rcases hh with hd | hm
    · refine ⟨by rw [addR, if_pos hd], keep ?_ ?_⟩
      · rw [addC, if_neg (by omega)]
      · rw [addS, if_neg (by omega), if_neg (by omega)]
    · have hr := hR.rng _ hm
      refine ⟨by rw [addR, if_neg (by omega), if_neg (by omega), if_pos (by omega)]; simp [hm], keep ?_ ?_⟩
      · rw [addC, if_neg (by omega)]
      · rw [addS, if_neg (by omega), if_pos (by omega), ins_same hR.rising hm]
  · have hh' : hasS cum S t = false := by simpa using hh
    rw [hh', br_false]
    unfold hasS at hh
    simp only [Bool.or_eq_true, decide_eq_true_eq, not_or] at hh
    obtain ⟨hd, hm⟩ := hh
    simp only [br_dec]
    refine ⟨fun hfar => ⟨by rw [addR, if_neg hd, if_pos hfar], keep ?_ ?_⟩, fun hfar => ?_⟩
    · rw [addC, if_neg (by omega)]
    · rw [addS, if_neg (by omega), if_neg (by omega)]
    obtain ⟨d, hdd⟩ : ∃ d : Nat, sd cum t = d := ⟨(sd cum t).toNat, by omega⟩
    have hsd : (sd cum t).toNat = d := by omega
    rw [hsd] at hm
    have hIl : (ins d S).length = S.length + 1 := ins_length hm
    have hIr := ins_rising (d := d) hR.rising
    have hIb : ∀ e ∈ ins d S, 1 ≤ e ∧ e ≤ 65535 := fun e he => by
      rcases mem_ins.1 he with rfl | he
      · omega
      · have := hR.rng e he; omega
    have fin : ∀ w' sa, RefR w' b sa ((cum + (goRun 0 (ins d S) : Int)) % 4294967296) (shift (goRun 0 (ins d S)) (ins d S)) → (∀ k, inB sa k → w.heap.size ≤ k) → Fr (· = b) w w' →
        (Value.tuple #[.bool true, .int .i64 0] = .tuple #[.bool (addR cum S t).1, .int .i64 (addR cum S t).2] ∧ ∃ a', RefR w' b a' (addC cum S t) (addS cum S t) ∧ (a' = a ∨ ∀ k, inB a' k → w.heap.size ≤ k) ∧ Fr (· = b) w w') := by
      intro w' sa h1 h2 h3
      by_cases hd1 : d = 1
      · subst hd1
        have hins : ins 1 S = 1 :: S := by
          cases S with
          | nil => rfl
          | cons x r => have := hR.rng x (by simp); unfold ins; rw [if_pos (by omega)]
        have hg : goRun 0 (ins 1 S) = runS S := by rw [hins, goRun, if_pos rfl]; rfl
        obtain ⟨r1, _⟩ := runS_spec hR.rising fun d hd => (hR.rng d hd).1
        have hs : shift (runS S) (ins 1 S) = shift (runS S) S := by
          rw [hins]; unfold shift; rw [List.filter_cons_of_neg (by simp; omega)]
        rw [hg, hs] at h1
        refine ⟨by rw [addR, if_neg hd, if_neg hfar, if_neg (by omega)], sa, ?_, .inr h2, h3⟩
        rw [addC, addS, if_pos (by omega), if_pos (by omega)]
        exact h1
      · have hg : goRun 0 (ins d S) = 0 := by
          have hne : ∀ e ∈ ins d S, e ≠ 1 := fun e he => by
            rcases mem_ins.1 he with rfl | he
            · omega
            · have := hR.rng e he; omega
          cases hc : ins d S with
          | nil => rfl
          | cons x r => rw [goRun, if_neg (hne x (by rw [hc]; simp))]
        have hs : shift 0 (ins d S) = ins d S := by
          unfold shift
          rw [List.filter_eq_self.2 fun e he => by have := hIb e he; simp; omega]
          simp
        rw [hg, hs] at h1
        refine ⟨by rw [addR, if_neg hd, if_neg hfar, if_pos (by omega), hsd]; simp [hm], sa, ?_, .inr h2, h3⟩
        rw [addC, addS, if_neg (by omega), if_neg (by omega), if_pos (by omega), hsd]
        have : (cum + ((0 : Nat) : Int)) % 4294967296 = cum := by omega
        rw [this] at h1
        exact h1
    rw [hdd]
    refine ⟨S.length + 1, r37_in (w0 := w) hm hR S.length 0 w _ false none 0 0 (by omega) ⟨Fr.refl w, (by simpa [half, atV] using Own.nil w w.heap.size 3 1), (fun h => by cases h), (fun _ => by simp)⟩ (by omega) fun done la l c' w1 H _g => ?_⟩
    simp only [rdP_mk, rdI_mk, rdC_mk, rdB_mk]
    have hl : l = (half S d S.length done).length := by have := H.own.length; rw [atV_length] at this; omega
    cases done with
    | true =>
      have hhf : half S d S.length true = ins d S := by unfold half; rw [if_pos rfl, List.take_length]
      have ho := H.own
      rw [hhf] at ho hl
      subst hl
      simp only [Bool.not_true, br_false]
      refine r37_fin hR H.fr ho (by omega) hIr hIb fun w' sa h1 h2 h3 _g => ?_
      simp only [rdI_mk, rdB_mk]
      exact fin w' sa h1 h2 h3
    | false =>
      have hhf : half S d S.length false = S := by unfold half; rw [if_neg (by simp), List.take_length]
      have ho := H.own
      rw [hhf] at ho hl
      subst hl
      simp only [Bool.not_false, br_true]
      refine own_push H.fr ho (by omega) fun a2 c2 w2 hf2 ho2 => ?_
      have hlast : atV S ++ [.int .i64 (d : Int)] = atV (ins d S) := by
        have := H.no rfl
        rw [List.take_length] at this
        rw [ins_last this, atV_snoc]
      rw [hlast] at ho2
      rw [← hIl] at ho2 ⊢
      refine r37_fin hR hf2 ho2 (by omega) hIr hIb fun w' sa h1 h2 h3 _g => ?_
      simp only [rdI_mk, rdB_mk]
      exact fin w' sa h1 h2 h3
theorem r66_loop {w0 : World} (hR : RefR w0 b a cum S) {d : Int} {K0 : Value → Value → World → Prop} : ∀ (i j : Nat) (w : World) (k : Nat) (la : Option Addr) (l c : Nat), j + i = S.length → Same w0 w → Own w w0.heap.size 3 1 la l c (atV ((S.take j).filter fun e => decide ((e : Int) ≠ d))) → i < k →
    (∀ w' la l c, Same w0 w' → Own w' w0.heap.size 3 1 la l c (atV (S.filter fun e => decide ((e : Int) ≠ d))) → K0 (.pointer (some ⟨b, 0, none⟩)) (.slice la l c) w') →
    F66_1 K0 k (.pointer (some ⟨b, 0, none⟩)) (.int .i64 d) (.slice la l c) (.int .i64 (j : Int)) w := by
  have hlen := hR.len
  intro i
  induction i with
  | zero =>
    intro j w k la l c hj hf ho hk hK
    obtain ⟨k, rfl⟩ : ∃ j, k = j + 1 := ⟨k - 1, by omega⟩
    obtain ⟨c0, k1, k2⟩ := (hR.same hf).blk
    show F66_1B _ _ _ _ _ _ _
    unfold F66_1B
    simp only [rdP_mk, rdI_mk, rdC_mk, nn_some, add_mk]
    refine ldC_at k1 rfl ?_
    simp only [br_dec]
    rw [List.take_of_length_le (by omega)] at ho
    exact ⟨fun h => by exfalso; omega, fun _ => hK w la l c hf ho⟩
  | succ i ih =>
    intro j w k la l c hj hf ho hk hK
    obtain ⟨k, rfl⟩ : ∃ j, k = j + 1 := ⟨k - 1, by omega⟩
    obtain ⟨c0, k1, k2⟩ := (hR.same hf).blk
    obtain ⟨x, hx⟩ : ∃ x, S[j]? = some x := ⟨S[j]'(by omega), by simp⟩
    have htake : S.take (j + 1) = S.take j ++ [x] := by rw [List.take_add_one, hx]; rfl
    have e1 : IntKind.wrap .i64 ((j : Int) + 1) = ((j + 1 : Nat) : Int) := by rw [wrap_i64 (by omega) (by omega)]; omega
    have hl : l ≤ 70000 := by
      have h1 := ho.length
      rw [atV_length] at h1
      have h2 := List.length_filter_le (fun e : Nat => decide ((e : Int) ≠ d)) (S.take j)
      rw [List.length_take] at h2
      omega
    show F66_1B _ _ _ _ _ _ _
    unfold F66_1B
    simp only [rdP_mk, rdI_mk, rdC_mk, nn_some, add_mk]
    refine ldC_at k1 rfl ?_
    simp only [br_dec]
    refine ⟨fun _ => ldC_at k1 rfl ?_, fun h => by exfalso; omega⟩
    obtain ⟨ad, ha⟩ := k2.rd.some (by rw [atV_length]; omega)
    rw [ha] at k1 k2 ⊢
    refine ixS_of (by omega) (by omega) ?_
    simp only [Int.toNat_natCast, Nat.mul_one]
    refine ldI_c (k2.rd.at (atV_at hx)) ?_
    rw [e1]
    by_cases hxd : (x : Int) = d
    · have : ((x : Int) != d) = false := by simp [hxd]
      rw [this, br_false]
      refine ih (j + 1) w k la l c (by omega) hf ?_ (by omega) hK
      rw [htake, List.filter_append, List.filter_cons_of_neg (by simp [hxd])]
      simpa using ho
    · have : ((x : Int) != d) = true := by simp [hxd]
      rw [this, br_true]
      refine ldC_at k1 rfl (ixS_of (by omega) (by omega) ?_)
      simp only [Int.toNat_natCast, Nat.mul_one]
      refine ldI_c (k2.rd.at (atV_at hx)) (own_push hf ho (by omega) fun a2 c2 w2 hf2 ho2 => ?_)
      refine ih (j + 1) w2 k a2 (l + 1) c2 (by omega) hf2 ?_ (by omega) hK
      rw [htake, List.filter_append, List.filter_cons_of_pos (by simp [hxd]), List.filter_nil, atV_snoc]
      exact ho2
theorem r66 {w : World} (hR : RefR w b a cum S) {t : Int} (h0 : 0 ≤ t) (h1 : t < 4294967296) :
    Calls Tryd.prog 66 #[.pointer (some ⟨b, 0, none⟩), .int .u32 t] w (rt fun v w' => v = .bool (decide ((sd cum t).toNat ∈ S)) ∧ ∃ a', RefR w' b a' cum (del (sd cum t).toNat S) ∧ (∀ k, inB a' k → w.heap.size ≤ k) ∧ Fr (· = b) w w') := by
  have hc0 := hR.c0
  have hc1 := hR.c1
  have hbl := hR.blt
  obtain ⟨c, k1, k2⟩ := hR.blk
  refine F66_ok ?_
  unfold F66
  simp only [rdP_mk, rdI_mk, nn_some, add_mk]
  refine ldI_at k1 rfl (clr (c18 _ _ _ hc0 hc1 h0 h1) ⟨_, rfl, S.length + 1, ?_⟩)
  refine r66_loop (w0 := w) hR S.length 0 w _ none 0 0 (by omega) (Fr.refl w) (by simpa [atV] using Own.nil _ _ _ _) (by omega) fun w1 la l c1 hf ho _g => ?_
  simp only [rdP_mk, rdC_mk, nn_some, add_mk]
  have hfil : (S.filter fun (e : Nat) => decide ((e : Int) ≠ sd cum t)) = del (sd cum t).toNat S := by
    unfold del
    refine List.filter_congr fun e he => ?_
    have := hR.rng e he
    rw [Bool.eq_iff_iff]
    simp only [decide_eq_true_eq, bne_iff_ne]
    omega
  rw [hfil] at ho
  have hl : l = (del (sd cum t).toNat S).length := by have := ho.length; rw [atV_length] at this; omega
  subst hl
  obtain ⟨c2, q1, q2⟩ := (hR.same hf).blk
  refine ldC_at q1 rfl (stc_at q1 (by simp) ?_)
  generalize hw2 : sb w1 b _ = w2
  have b2 : w2.heap[b]? = some (.cells #[.int .u32 cum, .slice la (del (sd cum t).toNat S).length c1] 32 (0, 0)) := by rw [← hw2]; exact sb_same q1
  have f2 : Fr (· = b) w1 w2 := by rw [← hw2]; exact (Fr.refl (S := (· = b)) w1).sb (b := b) fun _ => rfl
  clear hw2
  refine ⟨?_, la, ⟨⟨c1, b2, (ho.fr f2 fun k hk x => by have := (ho.base_le hk).1; omega).mono (by omega)⟩, del_rising hR.rising, fun e he => hR.rng e (mem_del.1 he).1, hc0, hc1⟩, fun k hk => (ho.base_le hk).1, (hf.mono (S' := (· = b)) fun _ _ x => x.elim).trans f2 fun _ _ x => x⟩
  rw [Value.bool.injEq, decide_eq_decide]
  constructor
  · intro h
    refine Classical.byContradiction fun hn => ?_
    have : del (sd cum t).toNat S = S := by
      unfold del
      rw [List.filter_eq_self]
      intro e he
      simp
      intro h'; rw [h'] at he; exact hn he
    rw [this] at h; omega
  · intro hm
    have := del_length hR.rising hm
    omega
end
end Go.Proofs.YtccffjlahpfdaaaDoor

namespace Go.Proofs.YtccffjlahpfdaaaDoor
open Go Go.Sh Go.Sp

/-! the document's Gaps and Missing -/
theorem gstep_keep {L : List (Nat × Nat)} {m d : Nat} (h : m < L.length) : (gstep L d).take m = L.take m ∧ m < (gstep L d).length := by
  rcases List.eq_nil_or_concat L with rfl | ⟨L, p, rfl⟩
  · simp at h
  · rw [List.concat_eq_append] at h ⊢
    rw [gstep_snoc]
    simp only [List.length_append, List.length_singleton] at h
    split
    · rw [take_full (by omega), take_full (by omega)]; exact ⟨rfl, by simp; omega⟩
    · rw [List.append_assoc, take_full (by omega), take_full (by omega)]; exact ⟨rfl, by simp; omega⟩
theorem gapA_keep (s : List Nat) : ∀ (L : List (Nat × Nat)) (m : Nat), m < L.length → (s.foldl gstep L).take m = L.take m := by
  induction s with
  | nil => intro L m _; rfl
  | cons d s ih =>
    intro L m h
    rw [List.foldl_cons, ih _ m (gstep_keep h).2, (gstep_keep h).1]
theorem gapA_append (r s : List Nat) : gapA (r ++ s) = s.foldl gstep (gapA r) := by simp [gapA]
/-- a new block's beginning: what was told before stays -/
theorem gapA_cut {r s : List Nat} {d : Nat} (h : gstep (gapA r) d = gapA r ++ [(d, d)]) : (gapA (r ++ d :: s)).take (gapA r).length = gapA r := by
  rw [gapA_append, List.foldl_cons, gapA_keep s _ _ (by rw [h]; simp), h, take_full (Nat.le_refl _), List.take_length]
theorem gstep_of {r : List Nat} {d : Nat} : (∃ L p, gapA r = L ++ [p] ∧ p.2 + 1 = d ∧ gstep (gapA r) d = L ++ [(p.1, d)]) ∨ (gstep (gapA r) d = gapA r ++ [(d, d)] ∧ ∀ L p, gapA r = L ++ [p] → p.2 + 1 ≠ d) := by
  rcases List.eq_nil_or_concat (gapA r) with h | ⟨L, p, h⟩
  · rw [h]; exact .inr ⟨rfl, fun L p e => by simp at e⟩
  · rw [List.concat_eq_append] at h
    rw [h, gstep_snoc]
    by_cases hc : p.2 + 1 = d
    · rw [if_pos hc]; exact .inl ⟨L, p, rfl, hc, rfl⟩
    · rw [if_neg hc]
      refine .inr ⟨rfl, fun L' p' e => ?_⟩
      have := List.append_inj_right' e rfl
      simp at this
      rw [← this]; exact hc
theorem gapA_last {r : List Nat} {e : Nat} {L : List (Nat × Nat)} {p : Nat × Nat} (h : gapA (r ++ [e]) = L ++ [p]) : p.2 = e := by
  rw [gapA_snoc] at h
  obtain ⟨q, h1, h2⟩ := gstep_last (gapA r) e
  rw [h] at h1
  simp at h1
  rw [h1]; exact h2
section
variable {b : Nat} {a : Option Addr} {cum N : Int} {S : List Nat}
theorem r79_loop {w0 : World} (hR : RefR w0 b a cum S) {K0 : Value → World → Prop} {Kr : Value → World → Prop} : ∀ (i j : Nat) (w : World) (k : Nat) (la : Option Addr) (c : Nat), j + i = S.length → Same w0 w → Own w w0.heap.size 60 2 la (gapA (S.take j)).length c (gapV (gapA (S.take j))) → ((gapA (S.take j)).length : Int) ≤ N ∨ gapA (S.take j) = [] → i < k →
    (∀ w' la c, Same w0 w' → Own w' w0.heap.size 60 2 la (gapS S N).length c (gapV (gapS S N)) → K0 (.slice la (gapS S N).length c) w') →
    (∀ w' la c, Same w0 w' → Own w' w0.heap.size 60 2 la (gapS S N).length c (gapV (gapS S N)) → Kr (.slice la (gapS S N).length c) w') →
    F79_2 K0 Kr k (.pointer (some ⟨b, 0, none⟩)) (.int .i64 N) (.slice la (gapA (S.take j)).length c) (.int .i64 (j : Int)) w := by
  have hlen := hR.len
  intro i
  induction i with
  | zero =>
    intro j w k la c hj hf ho hN hk hK hKr
    obtain ⟨k, rfl⟩ : ∃ j, k = j + 1 := ⟨k - 1, by omega⟩
    obtain ⟨c0, k1, k2⟩ := (hR.same hf).blk
    show F79_2B _ _ _ _ _ _ _ _
    unfold F79_2B
    simp only [rdP_mk, rdI_mk, rdC_mk, nn_some, add_mk]
    refine ldC_at k1 rfl ?_
    simp only [br_dec]
    rw [List.take_of_length_le (by omega)] at ho hN ⊢
    refine ⟨fun h => by exfalso; omega, fun _ => ?_⟩
    have : gapS S N = gapA S := by
      unfold gapS
      rcases hN with hN | hN
      · exact List.take_of_length_le (by omega)
      · rw [hN]; simp
    have := hK w la c hf
    rw [‹gapS S N = gapA S›] at this
    exact this ho
  | succ i ih =>
    intro j w k la c hj hf ho hN hk hK hKr
    obtain ⟨k, rfl⟩ : ∃ j, k = j + 1 := ⟨k - 1, by omega⟩
    obtain ⟨c0, k1, k2⟩ := (hR.same hf).blk
    obtain ⟨x, hx⟩ : ∃ x, S[j]? = some x := ⟨S[j]'(by omega), by simp⟩
    have hxr := hR.rng x (List.mem_of_getElem? hx)
    have htake : S.take (j + 1) = S.take j ++ [x] := by rw [List.take_add_one, hx]; rfl
    have hsplit : S = S.take j ++ x :: S.drop (j + 1) := by
      have h1 := List.take_append_drop j S
      have h2 : S.drop j = x :: S.drop (j + 1) := by
        have := List.getElem?_eq_getElem (l := S) (i := j) (by omega)
        rw [hx, Option.some.injEq] at this
        rw [List.drop_eq_getElem_cons (by omega), ← this]
      rw [← h2]; exact h1.symm
    have e1 : IntKind.wrap .i64 ((j : Int) + 1) = ((j + 1 : Nat) : Int) := by rw [wrap_i64 (by omega) (by omega)]; omega
    have hgl : (gapA (S.take j)).length ≤ 65534 := by
      have := (gapA_inv (S.take j) (hR.rising.sublist (List.take_sublist _ _))).2.2
      rw [List.length_take] at this; omega
    have wx : IntKind.wrap .u16 (x : Int) = x := wrap_u16 (by omega) (by omega)
    have f0 : Same w w.drew := (Fr.refl w).drew
    have g0 : Same w0 w.drew := hf.drew
    -- a new block
    have fresh : ∀ {L : List (Nat × Nat)} {w1 : World} , gapA (S.take j) = L → gstep L x = L ++ [(x, x)] → Same w0 w1 → Own w1 w0.heap.size 60 2 la L.length c (gapV L) →
        br (decide (((L.length : Int) : Int) ≥ N)) (Kr (.slice la L.length c) w1) (drw w1 fun w30 => nn (some (Addr.mk b 0 none)) fun a31 => ldC (a31.add 1) w30 fun l32a l32n l32c => ixS 1 l32a l32n (j : Int) fun a33 => ldI .i64 a33 w30 fun n34 => nn (some (Addr.mk b 0 none)) fun a35 => ldC (a35.add 1) w30 fun l36a l36n l36c => ixS 1 l36a l36n (j : Int) fun a37 => ldI .i64 a37 w30 fun n38 => alc (.cells #[(.int .u16 (IntKind.wrap .u16 (n34))), (.int .u16 (IntKind.wrap .u16 (n38)))] 60) w30 fun b39 w40 => ∃ l41a l41n l41c w42, Sem.run Tryd.prog (Builtin.append_ #[50, 50] 50 #[(.slice la L.length c), (.slice (some (Addr.mk b39 0 none)) 1 1)]) w40 = .ok (.slice l41a l41n l41c) w42 ∧ (F79_2 K0 Kr k (.pointer (some ⟨b, 0, none⟩)) (.int .i64 N) (.slice l41a l41n l41c) (.int .i64 (IntKind.wrap .i64 ((j : Int) + 1))) w42)) := by
      intro L w1 hL hg hf1 ho1
      subst hL
      obtain ⟨c1, q1, q2⟩ := (hR.same hf1).blk
      unfold drw alc
      simp only [nn_some, add_mk, br_dec]
      refine ⟨fun h => ?_, fun h => ?_⟩
      · have hgs : gapS S N = gapA (S.take j) := by
          unfold gapS
          have hcut := gapA_cut (s := S.drop (j + 1)) hg
          rw [← hsplit] at hcut
          rcases hN with hN | hN
          · rw [show N.toNat = (gapA (S.take j)).length by omega]; exact hcut
          · rw [hN] at h ⊢
            rw [show N.toNat = 0 by simp at h; omega, List.take_zero]
        have := hKr w1 la c hf1
        rw [hgs] at this
        exact this ho1
      · have f1 : Same w1 w1.drew := (Fr.refl w1).drew
        refine ldC_at (w := w1.drew) q1 rfl ?_
        have hr := Rd.same q2.rd f1
        obtain ⟨ad, ha⟩ := hr.some (by rw [atV_length]; omega)
        rw [ha] at hr ⊢
        refine ixS_of (by omega) (by omega) ?_
        simp only [Int.toNat_natCast, Nat.mul_one]
        refine ldI_c (hr.at (atV_at hx)) ?_
        refine ldC_at (w := w1.drew) q1 rfl ?_
        rw [ha]
        refine ixS_of (by omega) (by omega) ?_
        simp only [Int.toNat_natCast, Nat.mul_one]
        refine ldI_c (hr.at (atV_at hx)) ?_
        rw [wx]
        refine push E37 (ho1.fr f1 fun _ _ x => x) (news := #[_, _]) rfl (by simp [Value.oneCell']) (by omega) (by omega) hf1.drew.size ?_
        intro a2 c2 w2 p1 p2 p3
        rw [e1]
        have hgn : gapA (S.take (j + 1)) = gapA (S.take j) ++ [(x, x)] := by rw [htake, gapA_snoc, hg]
        have hgl2 : (gapA (S.take (j + 1))).length = (gapA (S.take j)).length + 1 := by rw [hgn]; simp
        have := ih (j + 1) w2 k a2 c2 (by omega) ?_ ?_ (.inl (by omega)) (by omega) hK hKr
        · rw [hgl2] at this; exact this
        · exact ((hf1.drew.mono (S' := fun k => w0.heap.size ≤ k) fun _ _ x => x.elim).trans p2 fun i _ x => (ho1.base_le x).1).mono fun i hi x => by omega
        · rw [hgl2, hgn, gapV_snoc]; exact p1
    show F79_2B _ _ _ _ _ _ _ _
    unfold F79_2B drw
    simp only [rdP_mk, rdI_mk, rdC_mk, nn_some, add_mk]
    refine ldC_at k1 rfl ?_
    simp only [br_dec]
    refine ⟨fun _ => ⟨fun hj0 => ?_, fun hj0 => ?_⟩, fun h => by exfalso; omega⟩
    · refine ldC_at (w := w.drew) k1 rfl ?_
      have hr := Rd.same k2.rd f0
      obtain ⟨ad, ha⟩ := hr.some (by rw [atV_length]; omega)
      rw [ha] at hr ⊢
      refine ixS_of (by omega) (by omega) ?_
      simp only [Int.toNat_natCast, Nat.mul_one]
      refine ldI_c (hr.at (atV_at hx)) ?_
      refine ldC_at (w := w.drew) k1 rfl ?_
      rw [ha]
      have e2 : IntKind.wrap .i64 ((j : Int) - 1) = ((j - 1 : Nat) : Int) := by rw [wrap_i64 (by omega) (by omega)]; omega
      rw [e2]
      obtain ⟨y, hy⟩ : ∃ x, S[j - 1]? = some x := ⟨S[j - 1]'(by omega), by simp⟩
      have hyr := hR.rng y (List.mem_of_getElem? hy)
      refine ixS_of (by omega) (by omega) ?_
      simp only [Int.toNat_natCast, Nat.mul_one]
      refine ldI_c (hr.at (atV_at hy)) ?_
      have e3 : IntKind.wrap .i64 ((y : Int) + 1) = ((y + 1 : Nat) : Int) := by rw [wrap_i64 (by omega) (by omega)]; omega
      rw [e3]
      have htj : S.take j = S.take (j - 1) ++ [y] := by
        have : S.take (j - 1 + 1) = S.take (j - 1) ++ [y] := by rw [List.take_add_one, hy]; rfl
        rwa [show j - 1 + 1 = j by omega] at this
      obtain ⟨L, p, hLp⟩ : ∃ L p, gapA (S.take j) = L ++ [p] := by
        obtain ⟨p, h1, _⟩ := gstep_last (gapA (S.take (j - 1))) y
        rw [htj, gapA_snoc]
        rcases List.eq_nil_or_concat (gstep (gapA (S.take (j - 1))) y) with h | ⟨L, p, h⟩
        · rw [h] at h1; simp at h1
        · exact ⟨L, p, by rw [h]; simp⟩
      have hp2 : p.2 = y := gapA_last (r := S.take (j - 1)) (by rw [← htj]; exact hLp)
      have ho' := ho.fr f0 fun _ _ x => x
      unfold F79_1
      simp only [rdP_mk, rdI_mk, rdC_mk, rdB_mk]
      by_cases hadj : x = y + 1
      · have : ((x : Int) == ((y + 1 : Nat) : Int)) = true := by rw [beq_iff_eq]; omega
        rw [this, br_true]
        have hgn : gapA (S.take (j + 1)) = L ++ [(p.1, x)] := by rw [htake, gapA_snoc, hLp, gstep_snoc, if_pos (by omega)]
        rw [hLp] at ho' hgl hN ⊢
        have hsz : (L ++ [p]).length = L.length + 1 := by simp
        have e4 : IntKind.wrap .i64 (((L ++ [p]).length : Int) - 1) = ((L.length : Nat) : Int) := by rw [hsz, wrap_i64 (by omega) (by omega)]; omega
        rw [e4]
        have hgv : (gapV (L ++ [p]))[L.length * 2 + 1]? = some (.int .u16 (p.2 : Int)) := by
          rw [gapV_snoc, List.getElem?_append_right (by rw [gapV_length]; omega), gapV_length]
          simp [Nat.add_sub_cancel_left]
        obtain ⟨gd, hgd⟩ := ho'.rd.some (by rw [gapV_length]; omega)
        rw [hgd] at ho' ⊢
        refine ixS_of (by omega) (by omega) ?_
        simp only [Int.toNat_natCast, add_add]
        refine ldI_c (ho'.rd.at hgv) (ixS_of (by omega) (by omega) ?_)
        simp only [Int.toNat_natCast, add_add]
        have e5 : IntKind.wrap .u16 ((p.2 : Int) + 1) = (x : Int) := by rw [wrap_u16 (by omega) (by omega)]; omega
        rw [e5]
        refine ho'.put (by rw [gapV_length, hsz]; omega) fun w2 p1 p2 _g => ?_
        rw [e1]
        have hset : (gapV (L ++ [p])).set (L.length * 2 + 1) (.int .u16 (x : Int)) = gapV (L ++ [(p.1, x)]) := by
          rw [gapV_snoc, gapV_snoc, List.set_append_right _ _ (by rw [gapV_length]; omega), gapV_length]
          simp [Nat.add_sub_cancel_left]
        rw [hset] at p1
        have hl2 : (gapA (S.take (j + 1))).length = (L ++ [p]).length := by rw [hgn]; simp
        have := ih (j + 1) w2 k (some gd) c (by omega) ?_ ?_ ?_ (by omega) hK hKr
        · rw [hl2] at this; exact this
        · exact ((g0.mono (S' := fun k => w0.heap.size ≤ k) fun _ _ x => x.elim).trans p2 fun i _ x => (ho'.base_le x).1).mono fun i hi x => by omega
        · rw [hl2, hgn]; exact p1
        · rcases hN with hN | hN
          · exact .inl (by rw [hl2]; exact hN)
          · simp at hN
      · have : ((x : Int) == ((y + 1 : Nat) : Int)) = false := by rw [beq_eq_false_iff_ne]; omega
        rw [this, br_false]
        intro _g
        exact br_dec.1 (fresh (L := gapA (S.take j)) rfl (by rw [hLp, gstep_snoc, if_neg (by omega)]) g0 ho')
    · have hj00 : j = 0 := by omega
      unfold F79_1
      simp only [rdP_mk, rdI_mk, rdC_mk, rdB_mk, br_false]
      intro _g
      have hnil : gapA (S.take j) = [] := by rw [hj00]; rfl
      exact br_dec.1 (fresh (L := gapA (S.take j)) rfl (by rw [hnil]; rfl) g0 (ho.fr f0 fun _ _ x => x))
theorem r79 {w : World} (hR : RefR w b a cum S) (N : Int) :
    Calls Tryd.prog 79 #[.pointer (some ⟨b, 0, none⟩), .int .i64 N] w (rt fun v w' => ∃ a c, v = .slice a (gapS S N).length c ∧ Own w' w.heap.size 60 2 a (gapS S N).length c (gapV (gapS S N)) ∧ Same w w') := by
  refine F79_ok ?_
  unfold F79
  simp only [rdP_mk, rdI_mk]
  refine ⟨S.length + 1, r79_loop (w0 := w) hR S.length 0 w _ none 0 (by omega) (Fr.refl w) (Own.nil _ _ _ _) (.inr rfl) (by omega) (fun w' la c hf ho _g => ?_) fun w' la c hf ho _g => ?_⟩
  · simp only [rdC_mk]; exact ⟨la, c, rfl, ho, hf⟩
  · simp only [rdC_mk]; exact ⟨la, c, rfl, ho, hf⟩
end
end Go.Proofs.YtccffjlahpfdaaaDoor

namespace Go.Proofs.YtccffjlahpfdaaaDoor
open Go Go.Sh Go.Sp

theorem missA_append (r s : List Nat) : missA (r ++ s) = s.foldl mstep (missA r) := by simp [missA]
theorem mstep_keep (s : List Nat) : ∀ acc : List Nat × Nat, ∃ t, (s.foldl mstep acc).1 = acc.1 ++ t := by
  induction s with
  | nil => intro acc; exact ⟨[], by simp⟩
  | cons d s ih =>
    intro acc
    obtain ⟨t, h⟩ := ih (mstep acc d)
    exact ⟨List.range' acc.2 (d - acc.2) ++ t, by rw [List.foldl_cons, h]; simp [mstep]⟩
section
variable {b : Nat} {a : Option Addr} {cum N : Int} {S : List Nat}
end
end Go.Proofs.YtccffjlahpfdaaaDoor

namespace Go.Proofs.YtccffjlahpfdaaaDoor
open Go Go.Sh Go.Sp

/-! the law SpansRuns -/
structure OpI where
  kind : Int
  at_ : Int
  n : Int
def opC (o : OpI) : List Value := [Value.int .i64 o.kind, Value.int .u32 o.at_, Value.int .i64 o.n]
def opV (O : List OpI) : List Value := O.flatMap opC
theorem opV_at {O : List OpI} {j : Nat} {o : OpI} (h : O[j]? = some o) : (opV O)[j * 3]? = some (.int .i64 o.kind) ∧ (opV O)[j * 3 + 1]? = some (.int .u32 o.at_) ∧ (opV O)[j * 3 + 2]? = some (.int .i64 o.n) := by
  induction O generalizing j with
  | nil => simp at h
  | cons p O ih =>
    have h2 : opV (p :: O) = Value.int .i64 p.kind :: Value.int .u32 p.at_ :: Value.int .i64 p.n :: opV O := rfl
    rw [h2]
    cases j with
    | zero => simp at h; subst h; exact ⟨rfl, rfl, rfl⟩
    | succ j =>
      have := ih (j := j) (by simpa using h)
      rw [show (j + 1) * 3 = j * 3 + 1 + 1 + 1 by omega]
      exact this
theorem opV_length (O : List OpI) : (opV O).length = O.length * 3 := by
  induction O with
  | nil => rfl
  | cons p O ih => simp [opV, opC] at ih ⊢; omega
/-- the two sets, side by side -/
structure Pr (w0 : World) (b m rb : Nat) (ra : Option Addr) (cum : Int) (S : List Nat) (w : World) : Prop where
  set : SetR w b m cum S
  ref : RefR w rb ra cum S
  ne : rb ≠ b ∧ rb ≠ m
  na : ∀ k, inB ra k → k ≠ b ∧ k ≠ m
  nb : w0.heap.size ≤ b
  nm : w0.heap.size ≤ m
  nr : w0.heap.size ≤ rb
  fr : Same w0 w
theorem Pr.same {w0 w w' : World} {b m rb : Nat} {ra : Option Addr} {cum : Int} {S : List Nat} (h : Pr w0 b m rb ra cum S w) (hf : Same w w') : Pr w0 b m rb ra cum S w' :=
  ⟨h.set.same hf, h.ref.same hf, h.ne, h.na, h.nb, h.nm, h.nr, h.fr.trans hf fun _ _ x => x⟩
/-- each of the two has turned: first the program's, then the document's -/
theorem Pr.both {w0 w w1 w2 : World} {b m m' rb : Nat} {ra ra' : Option Addr} {cum cum' : Int} {S S' : List Nat} (h : Pr w0 b m rb ra cum S w) (hs : SetR w1 b m' cum' S') (hm : m' = m ∨ w.heap.size ≤ m') (h1 : Fr (Bm b m) w w1)
    (hr : RefR w2 rb ra' cum' S') (ha : ra' = ra ∨ ∀ k, inB ra' k → w1.heap.size ≤ k) (h2 : Fr (· = rb) w1 w2) : Pr w0 b m' rb ra' cum' S' w2 := by
  have hrb := h.ref.blt
  have hbl := hs.blt
  have hml := hs.mlt
  have hne : rb ≠ m' := by rcases hm with rfl | hm; exact h.ne.2; omega
  have hsz := h.fr.size
  refine ⟨hs.fr h2 (fun x => h.ne.1 x.symm) (fun x => hne x.symm), hr, ⟨h.ne.1, hne⟩, fun k hk => ?_, h.nb, SetR.bm h.nb h.nm hm hsz, h.nr, ?_⟩
  · rcases ha with rfl | ha
    · have h3 := h.na k hk
      have h4 := (h.ref.alt hk).2
      refine ⟨h3.1, ?_⟩
      rcases hm with rfl | hm
      · exact h3.2
      · omega
    · have := ha k hk; omega
  · exact ((h.fr.mono (S' := fun k => w0.heap.size ≤ k) fun _ _ x => x.elim).trans (h1.mono (S' := fun k => w0.heap.size ≤ k) fun i _ x => by rcases x with rfl | rfl; exact h.nb; exact h.nm) (fun _ _ x => x) |>.trans h2 fun i _ (x : i = rb) => by rw [x]; exact h.nr).mono fun i hi x => by omega
theorem Pr.ref1 {w0 w w1 : World} {b m rb : Nat} {ra : Option Addr} {cum : Int} {S : List Nat} (h : Pr w0 b m rb ra cum S w) (h1 : Fr (Bm b m) w w1) : RefR w1 rb ra cum S :=
  h.ref.fr h1 (by rintro (x | x); exact h.ne.1 x; exact h.ne.2 x) fun k hk => by rintro (x | x); exact (h.na k hk).1 x; exact (h.na k hk).2 x
section
variable {b rb : Nat} {O : List OpI} {a : Option Addr} {cc : Nat} {n : Int}
end
end Go.Proofs.YtccffjlahpfdaaaDoor
