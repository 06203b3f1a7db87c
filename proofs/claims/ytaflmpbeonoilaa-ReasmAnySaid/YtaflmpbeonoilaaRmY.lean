/-
  The numbers of held chunks, rising; fixed numbers are forgotten.
-/
import Derived.Test.YtaflmpbeonoilaaRmX
import Derived.Test.YtaflmpbeonoilaaShMd
namespace Go.Proofs.Ytaflmpbeonoilaa
open Go Go.Sh Go.RowKit Go.Sort
theorem srt_perm (X : List Int) : (srt X).Perm X := List.mergeSort_perm _ _
theorem srt_pair (X : List Int) : (srt X).Pairwise fun a b => a ≤ b := by
  have := List.pairwise_mergeSort (le := fun x y => !ltInt y x) (fun a b c h1 h2 => by simp [ltInt] at h1 h2 ⊢; omega) (fun a b => by simp [ltInt]; omega) X
  refine this.imp fun {a b} h => ?_
  simp [ltInt] at h
  exact h
theorem srt_len (X : List Int) : (srt X).length = X.length := (srt_perm X).length_eq
theorem eq_of_sorted : ∀ {a b : List Int}, a.Perm b → a.Pairwise (· ≤ ·) → b.Pairwise (· ≤ ·) → a = b := by
  intro a b hp ha hb
  exact hp.eq_of_pairwise (le := (· ≤ ·)) (fun x y _ _ h1 h2 => Int.le_antisymm h1 h2) ha hb
theorem srt_eq {X Y : List Int} (h : X.Perm Y) : srt X = srt Y := eq_of_sorted ((srt_perm X).trans (h.trans (srt_perm Y).symm)) (srt_pair X) (srt_pair Y)
theorem perm_same {a b : List Int} (ha : a.Nodup) (hb : b.Nodup) (h : ∀ x, x ∈ a ↔ x ∈ b) : a.Perm b := (List.perm_ext_iff_of_nodup ha hb).2 h
section
variable {W w : World} {L M Z : List HP} {tb mc mf : Nat} {hd : Int} {d : TD} {s : St} {es : List Ec} {F : List Int} {c : Ch}
theorem c37_nil (w : World) : Calls Try.prog 37 #[.slice none 0 0] w (rt (KR (.tuple #[]) w)) := by
  refine F37_ok ?_
  unfold F37
  simp only [rdC_mk]
  rw [wrap_u64 (by omega) (by omega)]
  refine cl (c57 (x := 0) (by omega)) fun v w1 ⟨hw, b, hv, hb, hb'⟩ => ⟨(b : Int), by rw [hv], ?_⟩
  subst hw
  have c80n : Calls Try.prog 80 #[.slice none 0 0, .int .i64 0, .int .i64 0] w1 (rt (KR (.tuple #[]) w1)) := by
    refine F80_ok ?_
    unfold F80
    simp only [rdC_mk, rdI_mk]
    refine ⟨1, ?_⟩
    show F80_3B _ _ _ _ _ _ _
    unfold F80_3B
    simp only [rdC_mk, rdI_mk]
    rw [br_dec]
    exact ⟨fun hx => absurd hx (by decide), fun _ _g => KR.mk _ _⟩
  have c59n : Calls Try.prog 59 #[.slice none 0 0, .int .i64 0, .int .i64 0, .int .i64 (b : Int)] w1 (rt (KR (.tuple #[]) w1)) := by
    refine F59_ok ?_
    unfold F59
    simp only [rdC_mk, rdI_mk]
    refine ⟨1, ?_⟩
    show F59_5B _ _ _ _ _ _ _ _ _
    unfold F59_5B
    simp only [rdC_mk, rdI_mk, rdB_mk]
    rw [br_dec]
    refine ⟨fun _ => clr c80n ⟨rfl, fun _g => KR.mk _ _⟩, fun hx => ?_⟩
    exact absurd (by decide) hx
  exact clr c59n ⟨rfl, KR.mk _ _⟩
theorem c19 (hN : (keys s.L).Nodup) (hi : Is d s) (hl : s.L.length ≤ 32768) (h : Hs W (tabL tb hd d s ++ Z) w) :
    Calls Try.prog 19 #[.pointer (some ⟨tb, 0, none⟩)] w (rt fun v w' => ∃ a c, v = .slice a s.L.length c ∧ Hs W (slP 30 1 a s.L.length c (inV .u32 (srt (keys s.L))) :: (tabL tb hd d s ++ Z)) w') := by
  refine F19_ok ?_
  unfold F19
  simp only [rdP_mk]
  refine clr (c24t h) ⟨_, rfl, ?_⟩
  simp only [Bool.not_true, br_false, nn_some, add_mk]
  refine h.ldM 0 rfl rfl ?_
  obtain ⟨es, c, l0, h5, e1, e2, e3, e4⟩ := h.mapv_open 1 rfl
  refine ⟨_, _, run_range_at u64 (h5.at 1 rfl), ?_⟩
  have h6 := (h5.alloc (.mapIter (some d.mc) c #[] c)).nil 30 1
  generalize w.alloc (.mapIter (some d.mc) c #[] c) = w2 at h6 ⊢
  generalize w.heap.size = it at h6 ⊢
  have hks : ∀ k, k ∈ l0.map Prod.fst ↔ k ∈ keys s.L := fun k => by rw [vval_mem_fst, e3, ← cMap_some, ← hi.L]
  have hkl : (keys s.L).length = s.L.length := by simp
  have loop : ∀ (K0 : Value → World → Prop), (∀ w' oa oc (g : List Int), g.Nodup → (∀ k, k ∈ g ↔ k ∈ keys s.L) → Hs W (slP 30 1 oa g.length oc (inV .u32 g) :: (tabL tb hd d s ++ Z)) w' → K0 (.slice oa g.length oc) w') →
      ∀ (i : Nat) (seen : Array Nat) (g : List Int) (w' : World) (k : Nat) (oa : Option Addr) (oc : Nat), (leftOf es seen).size ≤ i → GK es seen (keys s.L) g →
      Hs W (slP 30 1 oa g.length oc (inV .u32 g) :: pt it (.mapIter (some d.mc) c seen c) :: ((tabL tb hd d s).set 1 (pt d.mc (.map es c)) ++ Z)) w' → i < k →
      F19_1 K0 k (.slice oa g.length oc) (.pointer (some ⟨it, 0, none⟩)) w' := by
    intro K0 hK0 i
    induction i with
    | zero =>
      intro seen g w' k oa oc hi' G hh hk
      obtain ⟨k, rfl⟩ : ∃ j, k = j + 1 := ⟨k - 1, by omega⟩
      show F19_1B _ _ _ _ _
      unfold F19_1B
      simp only [rdC_mk]
      refine hh.next 1 3 rfl rfl e4.1 (Nat.le_refl _) (fun hz => ?_) fun e he w1 h5 => ?_
      · have h6 := hh.erase 1
        have h7 := h6.mapv_shut (l := l0) (f := cMap d.es) (kk := .u32) 2 rfl ⟨e1, e2, e3, e4⟩
        exact hK0 w' oa oc g G.nd (G.done e1 hks hz) h7
      · exfalso
        have := List.length_pos_of_mem he
        simp at this
        omega
    | succ i ih =>
      intro seen g w' k oa oc hi' G hh hk
      obtain ⟨k, rfl⟩ : ∃ j, k = j + 1 := ⟨k - 1, by omega⟩
      show F19_1B _ _ _ _ _
      unfold F19_1B
      simp only [rdC_mk]
      refine hh.next 1 3 rfl rfl e4.1 (Nat.le_refl _) (fun hz => ?_) fun e he w1 h5 => ?_
      · have h6 := hh.erase 1
        have h7 := h6.mapv_shut (l := l0) (f := cMap d.es) (kk := .u32) 2 rfl ⟨e1, e2, e3, e4⟩
        exact hK0 w' oa oc g G.nd (G.done e1 hks hz) h7
      · have h5 : Hs W (slP 30 1 oa g.length oc (inV .u32 g) :: pt it (.mapIter (some d.mc) c (seen.push e.born) c) :: ((tabL tb hd d s).set 1 (pt d.mc (.map es c)) ++ Z)) w1 := h5
        obtain ⟨hm, _⟩ := mem_left he
        have hen := h5.entry (P := Try.prog) 1 3 rfl rfl hm e4.2.1
        obtain ⟨k1, k3⟩ := dk_int e1 hm
        rw [k1] at hen
        refine ⟨_, _, _, hen, ?_⟩
        have G' := G.step e1 hks e4 he
        have hsh := left_shrinks es seen e he
        have hgl : g.length ≤ 32768 := by
          have q2 := nodup_sub_len g (keys s.L) G.nd G.sub
          omega
        unfold alc
        refine h5.push (ty := 33) E33 0 rfl (news := #[.int .u32 (dk e)]) rfl (by simp [Value.oneCell']) (by omega) (by omega) fun a' c' w2 h6 => ?_
        have h6 : Hs W (slP 30 1 a' (g.length + 1) c' (inV .u32 g ++ [.int .u32 (dk e)]) :: pt it (.mapIter (some d.mc) c (seen.push e.born) c) :: ((tabL tb hd d s).set 1 (pt d.mc (.map es c)) ++ Z)) w2 := h6
        rw [← inV_snoc] at h6
        have e5 : g.length + 1 = (g ++ [dk e]).length := by simp
        rw [e5] at h6 ⊢
        exact ih (seen.push e.born) (g ++ [dk e]) w2 k a' c' (by omega) G' h6 (by omega)
  refine ⟨(leftOf es #[]).size + 1, loop _ (fun w' oa oc g hn hg h3 => ?_) (leftOf es #[]).size #[] [] w2 _ none 0 (Nat.le_refl _) (GK.start es (keys s.L)) h6 (by omega)⟩
  intro _g
  simp only [rdC_mk]
  have hp := perm_same hn hN hg
  have hlen : g.length = s.L.length := by rw [hp.length_eq, hkl]
  cases oa with
  | none =>
    have ho := h3.own 0 rfl
    have hz := own_nilc ho rfl
    have hle := ho.le
    have hg0 : g = [] := List.length_eq_zero_iff.1 (by omega)
    subst hg0
    subst hz
    refine clr (c37_nil w') ⟨rfl, none, 0, by rw [← hlen], ?_⟩
    have : keys s.L = [] := List.length_eq_zero_iff.1 (by rw [hkl, ← hlen]; rfl)
    rw [this, ← hlen]
    have e0 : srt [] = [] := by unfold srt; simp
    rw [e0]
    exact h3
  | some ad =>
    refine cl (c37 h3 (by omega)) ?_
    rintro _ w3 ⟨rfl, h4⟩
    rw [srt_eq hp] at h4
    rw [hlen] at h4
    exact ⟨rfl, some ad, oc, by rw [hlen], h4⟩
theorem fMap_del (F : List Int) (t : Int) : updV (fMap F) t none = fMap (F.filter (· != t)) := by
  funext i
  unfold updV fMap
  by_cases h : i = t
  · rw [if_pos h, if_neg (by simp [h])]
  · rw [if_neg h]
    have : i ∈ F.filter (· != t) ↔ i ∈ F := by simp [h]
    simp only [this]
def moveS (s : St) (cum : Int) : St := { s with F := s.F.filter fun t => decide (0 < dif cum t) }
theorem c23 {cum : Int} (h : Hs W (tabL tb hd d s ++ Z) w) :
    Calls Try.prog 23 #[.pointer (some ⟨tb, 0, none⟩), .int .u32 cum] w (rt fun v w' => v = .int .i64 0 ∧ Hs W (tabL tb hd d (moveS s cum) ++ Z) w') := by
  refine F23_ok ?_
  unfold F23
  simp only [rdP_mk, rdI_mk]
  refine clr (c24t h) ⟨_, rfl, ?_⟩
  simp only [Bool.not_true, br_false, nn_some, add_mk]
  refine h.ldM 0 rfl rfl ?_
  obtain ⟨es, c, l0, h5, e1, e2, e3, e4⟩ := h.mapv_open 2 rfl
  refine ⟨_, _, run_range_at u65 (h5.at 2 rfl), ?_⟩
  have h6 := h5.alloc (.mapIter (some d.mf) c #[] c)
  generalize w.alloc (.mapIter (some d.mf) c #[] c) = w2 at h6 ⊢
  generalize w.heap.size = it at h6 ⊢
  have loop : ∀ (K0 : World → Prop), (∀ w', Hs W (tabL tb hd d (moveS s cum) ++ Z) w' → K0 w') →
      ∀ (i : Nat) (es : Array MapEntry) (l : List (Int × Value)) (seen : Array Nat) (p : Int → Bool) (w' : World) (k : Nat), (leftOf es seen).size ≤ i → VRep .u32 es.toList l → (l.map Prod.fst).Nodup → (∀ k, vval l k = fMap (s.F.filter p) k) → MapKept.Stamped es c →
      (∀ t ∈ s.F, p t = false → dif cum t ≤ 0) → (∀ e ∈ es.toList, seen.contains e.born = true → 0 < dif cum (dk e)) →
      Hs W (pt it (.mapIter (some d.mf) c seen c) :: ((tabL tb hd d s).set 2 (pt d.mf (.map es c)) ++ Z)) w' → i < k →
      F23_1 K0 k (.pointer (some ⟨tb, 0, none⟩)) (.int .u32 cum) (.pointer (some ⟨it, 0, none⟩)) w' := by
    intro K0 hK0 i
    have fin : ∀ (es : Array MapEntry) (l : List (Int × Value)) (seen : Array Nat) (p : Int → Bool) (w' : World), VRep .u32 es.toList l → (l.map Prod.fst).Nodup → (∀ k, vval l k = fMap (s.F.filter p) k) → MapKept.Stamped es c →
        (∀ t ∈ s.F, p t = false → dif cum t ≤ 0) → (∀ e ∈ es.toList, seen.contains e.born = true → 0 < dif cum (dk e)) →
        Hs W (pt it (.mapIter (some d.mf) c seen c) :: ((tabL tb hd d s).set 2 (pt d.mf (.map es c)) ++ Z)) w' → (leftOf es seen).size = 0 → K0 w' := by
      intro es l seen p w' r1 r2 r3 r4 r5 r6 hh hz
      have e0 : s.F.filter p = s.F.filter fun t => decide (0 < dif cum t) := by
        refine List.filter_congr fun t ht => ?_
        cases hp : p t with
        | false => have := r5 t ht hp; rw [eq_comm, decide_eq_false_iff_not]; omega
        | true =>
          have hin : t ∈ s.F.filter p := List.mem_filter.2 ⟨ht, hp⟩
          have hkl : t ∈ l.map Prod.fst := by rw [vval_mem_fst, r3, ← fMap_some]; exact hin
          obtain ⟨e, he, hk⟩ := dk_of r1 hkl
          have hs : seen.contains e.born = true := by
            cases hc : seen.contains e.born with
            | true => rfl
            | false =>
              exfalso
              have : e ∈ leftOf es seen := by
                unfold leftOf
                exact Array.mem_filter.2 ⟨by simpa using he, by rw [hc]; rfl⟩
              have hp := Array.size_pos_of_mem this
              omega
          have := r6 e he hs
          rw [hk] at this
          rw [eq_comm, decide_eq_true_eq]; exact this
      rw [e0] at r3
      have h7 := (hh.erase 0).mapv_shut (l := l) (f := fMap (moveS s cum).F) (kk := .u32) 2 rfl ⟨r1, r2, r3, r4⟩
      exact hK0 w' h7
    induction i with
    | zero =>
      intro es l seen p w' k hi' r1 r2 r3 r4 r5 r6 hh hk
      obtain ⟨k, rfl⟩ : ∃ j, k = j + 1 := ⟨k - 1, by omega⟩
      show F23_1B _ _ _ _ _ _
      unfold F23_1B
      simp only [rdP_mk, rdI_mk]
      refine hh.next 0 3 rfl rfl r4.1 (Nat.le_refl _) (fun hz => fin es l seen p w' r1 r2 r3 r4 r5 r6 hh hz) fun e he w1 h5 => ?_
      exfalso
      have := List.length_pos_of_mem he
      simp at this
      omega
    | succ i ih =>
      intro es l seen p w' k hi' r1 r2 r3 r4 r5 r6 hh hk
      obtain ⟨k, rfl⟩ : ∃ j, k = j + 1 := ⟨k - 1, by omega⟩
      show F23_1B _ _ _ _ _ _
      unfold F23_1B
      simp only [rdP_mk, rdI_mk]
      refine hh.next 0 3 rfl rfl r4.1 (Nat.le_refl _) (fun hz => fin es l seen p w' r1 r2 r3 r4 r5 r6 hh hz) fun e he w1 h5 => ?_
      have h5 : Hs W (pt it (.mapIter (some d.mf) c (seen.push e.born) c) :: ((tabL tb hd d s).set 2 (pt d.mf (.map es c)) ++ Z)) w1 := h5
      obtain ⟨hm, _⟩ := mem_left he
      have hen := h5.entry (P := Try.prog) 0 3 rfl rfl hm r4.2.1
      obtain ⟨k1, k3⟩ := dk_int r1 hm
      rw [k1] at hen
      refine ⟨_, _, _, hen, ?_⟩
      refine clr (c33 _ _ _) ⟨_, rfl, ?_⟩
      have hsh := left_shrinks es seen e he
      rw [br_dec]
      refine ⟨fun hle => ?_, fun hgt => ?_⟩
      · simp only [nn_some, add_mk]
        refine h5.ldM 1 rfl rfl ?_
        obtain ⟨es', l', hrun, q1, q2, q3, q4, q5⟩ := delete_at (P := Try.prog) (ats := #[65, 30]) (ty := 0) rfl u65 u30 (k := dk e) (h5.at 3 rfl) r1 r2 r4
        refine ⟨_, hrun, ?_⟩
        have h7 := h5.sb 3 rfl (.map es' c)
        have hlen : (leftOf es' (seen.push e.born)).size ≤ (leftOf es (seen.push e.born)).size := by
          unfold leftOf
          have := (q5.filter fun e' => !(seen.push e.born).contains e'.born).length_le
          rw [← Array.toList_filter, ← Array.toList_filter, Array.length_toList, Array.length_toList] at this
          exact this
        refine ih es' l' (seen.push e.born) (fun t => p t && t != dk e) _ k (by omega) q1 q2 (fun i => ?_) q4 (fun t ht hp => ?_) (fun e' he' hs => ?_) h7 (by omega)
        · rw [q3, r3]
          have := congrFun (fMap_del (s.F.filter p) (dk e)) i
          unfold updV at this
          rw [this, List.filter_filter]
          have e0 : s.F.filter (fun a => a != dk e && p a) = s.F.filter (fun t => p t && t != dk e) := List.filter_congr fun t _ => Bool.and_comm _ _
          rw [e0]
        · rcases Bool.and_eq_false_iff.1 hp with hp | hp
          · exact r5 t ht hp
          · have : t = dk e := by simpa using hp
            rw [this]; exact hle
        · have he2 := q5.subset he'
          rw [Array.contains_push, Bool.or_eq_true] at hs
          rcases hs with hs | hs
          · exact r6 e' he2 hs
          · exfalso
            have hb : e'.born = e.born := by simpa using hs
            have : e' = e := nodup_inj r4.2.1 he2 hm hb
            subst this
            obtain ⟨_, k4⟩ := dk_int q1 he'
            rw [vval_mem_fst, q3, if_pos rfl] at k4
            cases k4
      · refine ih es l (seen.push e.born) p w1 k (by omega) r1 r2 r3 r4 r5 (fun e' he' hs => ?_) h5 (by omega)
        rw [Array.contains_push, Bool.or_eq_true] at hs
        rcases hs with hs | hs
        · exact r6 e' he' hs
        · have hb : e'.born = e.born := by simpa using hs
          have : e' = e := nodup_inj r4.2.1 he' hm hb
          subst this
          omega
  refine ⟨(leftOf es #[]).size + 1, loop _ (fun w' h3 _g => ⟨trivial, h3⟩) (leftOf es #[]).size es l0 #[] (fun _ => true) w2 _ (Nat.le_refl _) e1 e2 (fun k => by rw [e3, List.filter_eq_self.2 (fun _ _ => rfl)]) e4 (fun t _ h => by cases h) (fun e _ h => by simp at h) h6 (by omega)⟩
end
end Go.Proofs.Ytaflmpbeonoilaa
