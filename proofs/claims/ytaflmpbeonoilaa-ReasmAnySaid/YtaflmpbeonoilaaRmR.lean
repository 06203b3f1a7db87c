/-
  Fixed, New; numbers compared; chunks made.
-/
import Derived.Test.YtaflmpbeonoilaaRmN
namespace Go.Proofs.Ytaflmpbeonoilaa
open Go Go.Sh Go.RowKit
/-! a map's keys, gathered -/
def intOf : Value → Int
  | .int _ n => n
  | _ => 0
def dk (e : MapEntry) : Int := intOf e.key
theorem nodup_inj {α β : Type} {f : α → β} : ∀ {l : List α}, (l.map f).Nodup → ∀ {a b : α}, a ∈ l → b ∈ l → f a = f b → a = b
  | [], _, _, _, h, _, _ => by simp at h
  | x :: l, hn, a, b, ha, hb, he => by
    simp only [List.map_cons, List.nodup_cons] at hn
    rcases List.mem_cons.1 ha with e1 | ha'
    · rcases List.mem_cons.1 hb with e2 | hb'
      · rw [e1, e2]
      · exact absurd (List.mem_map.2 ⟨b, hb', by rw [← he, e1]⟩) hn.1
    · rcases List.mem_cons.1 hb with e2 | hb'
      · exact absurd (List.mem_map.2 ⟨a, ha', by rw [he, e2]⟩) hn.1
      · exact nodup_inj hn.2 ha' hb' he
structure GK (es : Array MapEntry) (seen : Array Nat) (ks g : List Int) : Prop where
  sub : ∀ k ∈ g, k ∈ ks
  nd : g.Nodup
  got : ∀ e ∈ es.toList, seen.contains e.born = true ↔ dk e ∈ g
section
variable {es : Array MapEntry} {seen : Array Nat} {ks g : List Int} {l0 : List (Int × Value)} {c : Nat} {f : Int → Option Value}
theorem dk_int {e : MapEntry} (h1 : VRep .u32 es.toList l0) (he : e ∈ es.toList) : e.key = .int .u32 (dk e) ∧ dk e ∈ l0.map Prod.fst := by
  obtain ⟨j, hj⟩ := List.getElem?_of_mem he
  obtain ⟨q, hq, hk⟩ := vrep_key h1 hj
  have e1 : dk e = q.1 := by unfold dk; rw [hk]; rfl
  rw [e1]
  exact ⟨hk, List.mem_map.2 ⟨q, List.mem_of_getElem? hq, rfl⟩⟩
theorem dk_of {k : Int} (h1 : VRep .u32 es.toList l0) (hk : k ∈ l0.map Prod.fst) : ∃ e ∈ es.toList, dk e = k := by
  obtain ⟨q, hq, rfl⟩ := List.mem_map.1 hk
  obtain ⟨j, hj⟩ := List.getElem?_of_mem hq
  have hi := congrArg (·[j]?) h1
  simp only [List.getElem?_map, hj, Option.map_some] at hi
  cases he : es.toList[j]? with
  | none => rw [he] at hi; cases hi
  | some e =>
    rw [he] at hi
    simp only [Option.map_some, Option.some.injEq, Prod.mk.injEq] at hi
    refine ⟨e, List.mem_of_getElem? he, ?_⟩
    unfold dk
    rw [hi.1]; rfl
theorem GK.start (es : Array MapEntry) (ks : List Int) : GK es #[] ks [] := ⟨by simp, by simp, by simp⟩
theorem GK.step {e : MapEntry} (G : GK es seen ks g) (h1 : VRep .u32 es.toList l0) (hk : ∀ k, k ∈ l0.map Prod.fst ↔ k ∈ ks) (h4 : MapKept.Stamped es c) (he : e ∈ (leftOf es seen).toList) : GK es (seen.push e.born) ks (g ++ [dk e]) := by
  obtain ⟨hm, hs⟩ := mem_left he
  obtain ⟨k1, k3⟩ := dk_int h1 hm
  have hng : dk e ∉ g := fun hg => by
    have := (G.got e hm).2 hg
    rw [hs] at this
    cases this
  refine ⟨fun d hd => ?_, ?_, fun e' he' => ?_⟩
  · rcases List.mem_append.1 hd with hd | hd
    · exact G.sub d hd
    · rw [List.mem_singleton.1 hd]; exact (hk _).1 k3
  · rw [List.nodup_append]
    refine ⟨G.nd, by simp, fun a ha b hb hab => ?_⟩
    rw [List.mem_singleton] at hb
    subst hb; subst hab
    exact hng ha
  · rw [Array.contains_push, Bool.or_eq_true, G.got e' he', List.mem_append, List.mem_singleton]
    constructor
    · rintro (h | h)
      · exact .inl h
      · refine .inr ?_
        have : e'.born = e.born := by simpa using h
        rw [nodup_inj h4.2.1 he' hm this]
    · rintro (h | h)
      · exact .inl h
      · refine .inr ?_
        obtain ⟨q1, _⟩ := dk_int h1 he'
        have : e'.key = e.key := by rw [q1, k1, h]
        rw [nodup_inj h4.2.2 he' hm this]
        simp
theorem GK.done (G : GK es seen ks g) (h1 : VRep .u32 es.toList l0) (hk : ∀ k, k ∈ l0.map Prod.fst ↔ k ∈ ks) (h0 : (leftOf es seen).size = 0) (k : Int) : k ∈ g ↔ k ∈ ks := by
  refine ⟨G.sub k, fun hd => ?_⟩
  obtain ⟨e, he, rfl⟩ := dk_of h1 ((hk k).2 hd)
  refine (G.got e he).1 ?_
  cases hc : seen.contains e.born with
  | true => rfl
  | false =>
    exfalso
    have : e ∈ leftOf es seen := by
      unfold leftOf
      exact Array.mem_filter.2 ⟨by simpa using he, by rw [hc]; rfl⟩
    have hp := Array.size_pos_of_mem this
    omega
end
def nearB (cum t : Int) : Bool := decide (1 ≤ dif cum t) && decide (dif cum t ≤ 65535)
def fixS (F : List Int) (cum : Int) : List Int := (F.filter (nearB cum)).mergeSort (leD cum)
section
variable {W w : World} {L M Z : List HP} {tb mc mf : Nat} {hd : Int} {d : TD} {s : St} {es : List Ec} {F : List Int} {c : Ch}
theorem c14_none (cum : Int) (w : World) : Calls Try.prog 14 #[.pointer none, .int .u32 cum] w (rt fun v w' => v = .slice none 0 0 ∧ Same w w') := by
  refine F14_ok ?_
  unfold F14
  simp only [rdP_mk, rdI_mk]
  refine (Hs.start w).alc fun b3 w4 h4 => ?_
  refine clr (c24_none w4) ⟨_, rfl, ?_⟩
  exact ⟨by first | rfl | trivial, h4.old⟩
theorem c14_void {cs : Array Value} (cum : Int) (h : w.heap[tb]? = some (.cells cs 70 (0, 0))) (h0 : cs[0]? = some (.map none)) : Calls Try.prog 14 #[.pointer (some ⟨tb, 0, none⟩), .int .u32 cum] w (rt fun v w' => v = .slice none 0 0 ∧ Same w w') := by
  refine F14_ok ?_
  unfold F14
  simp only [rdP_mk, rdI_mk]
  refine (Hs.start w).alc fun b3 w4 h4 => ?_
  refine clr (c24 (h4.old.blk h fun x => x) h0) ⟨_, rfl, ?_⟩
  exact ⟨by first | rfl | trivial, h4.old⟩
theorem filter_snoc_pos {p : Int → Bool} {g : List Int} {k : Int} (h : p k = true) : (g ++ [k]).filter p = g.filter p ++ [k] := by simp [h]
theorem filter_snoc_neg {p : Int → Bool} {g : List Int} {k : Int} (h : p k = false) : (g ++ [k]).filter p = g.filter p := by simp [h]
theorem c14 {cum : Int} (hF : s.F.Nodup) (hr : ∀ t ∈ s.F, 0 ≤ t ∧ t < 4294967296) (hl : s.F.length ≤ 32768) (h : Hs W (tabL tb hd d s ++ Z) w) :
    Calls Try.prog 14 #[.pointer (some ⟨tb, 0, none⟩), .int .u32 cum] w (rt fun v w' => ∃ a c, v = .slice a (fixS s.F cum).length c ∧ Hs W (slP 30 1 a (fixS s.F cum).length c (inV .u32 (fixS s.F cum)) :: (tabL tb hd d s ++ Z)) w') := by
  refine F14_ok ?_
  unfold F14
  simp only [rdP_mk, rdI_mk]
  refine h.alc fun b3 w4 h4 => ?_
  refine clr (c24t h4.drop) ⟨_, rfl, ?_⟩
  simp only [Bool.not_true, br_false, nn_some, add_mk]
  refine h4.ldM 1 rfl rfl ?_
  obtain ⟨es, c, l0, h5, e1, e2, e3, e4⟩ := h4.mapv_open 3 rfl
  refine ⟨_, _, run_range_at u65 (h5.at 3 rfl), ?_⟩
  have h6 := (h5.alloc (.mapIter (some d.mf) c #[] c)).nil 30 1
  generalize w4.alloc (.mapIter (some d.mf) c #[] c) = w2 at h6 ⊢
  generalize w4.heap.size = it at h6 ⊢
  have hks : ∀ k, k ∈ l0.map Prod.fst ↔ k ∈ s.F := fun k => by rw [vval_mem_fst, e3, ← fMap_some]
  have loop : ∀ (K0 : Value → Value → World → Prop), (∀ w' oa oc (g : List Int), g.Nodup → (∀ k, k ∈ g ↔ k ∈ s.F) → Hs W (slP 30 1 oa (g.filter (nearB cum)).length oc (inV .u32 (g.filter (nearB cum))) :: pt b3 (.cells #[.int .u32 cum] 30 (0, 0)) :: (tabL tb hd d s ++ Z)) w' → K0 (.pointer (some ⟨b3, 0, none⟩)) (.slice oa (g.filter (nearB cum)).length oc) w') →
      ∀ (i : Nat) (seen : Array Nat) (g : List Int) (w' : World) (k : Nat) (oa : Option Addr) (oc : Nat), (leftOf es seen).size ≤ i → GK es seen s.F g →
      Hs W (slP 30 1 oa (g.filter (nearB cum)).length oc (inV .u32 (g.filter (nearB cum))) :: pt it (.mapIter (some d.mf) c seen c) :: pt b3 (.cells #[.int .u32 cum] 30 (0, 0)) :: ((tabL tb hd d s).set 2 (pt d.mf (.map es c)) ++ Z)) w' → i < k →
      F14_1 K0 k (.pointer (some ⟨b3, 0, none⟩)) (.slice oa (g.filter (nearB cum)).length oc) (.pointer (some ⟨it, 0, none⟩)) w' := by
    intro K0 hK0 i
    induction i with
    | zero =>
      intro seen g w' k oa oc hi G hh hk
      obtain ⟨k, rfl⟩ : ∃ j, k = j + 1 := ⟨k - 1, by omega⟩
      show F14_1B _ _ _ _ _ _
      unfold F14_1B
      simp only [rdC_mk, rdA_mk]
      refine hh.next 1 5 rfl rfl e4.1 (Nat.le_refl _) (fun hz => ?_) fun e he w1 h5 => ?_
      · have h6 := hh.erase 1
        have h7 := h6.mapv_shut (l := l0) (f := fMap s.F) (kk := .u32) 4 rfl ⟨e1, e2, e3, e4⟩
        exact hK0 w' oa oc g G.nd (G.done e1 hks hz) h7
      · exfalso
        have := List.length_pos_of_mem he
        simp at this
        omega
    | succ i ih =>
      intro seen g w' k oa oc hi G hh hk
      obtain ⟨k, rfl⟩ : ∃ j, k = j + 1 := ⟨k - 1, by omega⟩
      show F14_1B _ _ _ _ _ _
      unfold F14_1B
      simp only [rdC_mk, rdA_mk]
      refine hh.next 1 5 rfl rfl e4.1 (Nat.le_refl _) (fun hz => ?_) fun e he w1 h5 => ?_
      · have h6 := hh.erase 1
        have h7 := h6.mapv_shut (l := l0) (f := fMap s.F) (kk := .u32) 4 rfl ⟨e1, e2, e3, e4⟩
        exact hK0 w' oa oc g G.nd (G.done e1 hks hz) h7
      · have h5 : Hs W (slP 30 1 oa (g.filter (nearB cum)).length oc (inV .u32 (g.filter (nearB cum))) :: pt it (.mapIter (some d.mf) c (seen.push e.born) c) :: pt b3 (.cells #[.int .u32 cum] 30 (0, 0)) :: ((tabL tb hd d s).set 2 (pt d.mf (.map es c)) ++ Z)) w1 := h5
        obtain ⟨hm, _⟩ := mem_left he
        have hen := h5.entry (P := Try.prog) 1 5 rfl rfl hm e4.2.1
        obtain ⟨k1, k3⟩ := dk_int e1 hm
        rw [k1] at hen
        refine ⟨_, _, _, hen, ?_⟩
        refine h5.ldI 2 rfl rfl ?_
        refine clr (c33 _ _ _) ⟨_, rfl, ?_⟩
        have G' := G.step e1 hks e4 he
        have hsh := left_shrinks es seen e he
        have skip : nearB cum (dk e) = false → F14_1 K0 k (.pointer (some ⟨b3, 0, none⟩)) (.slice oa (g.filter (nearB cum)).length oc) (.pointer (some ⟨it, 0, none⟩)) w1 := fun hn => by
          have := ih (seen.push e.born) (g ++ [dk e]) w1 k oa oc (by omega) G' (by rw [filter_snoc_neg hn]; exact h5) (by omega)
          rw [filter_snoc_neg hn] at this
          exact this
        rw [br_dec]
        refine ⟨fun g1 => ?_, fun g1 => ?_⟩
        · rw [br_dec]
          refine ⟨fun g2 => ?_, fun g2 => ?_⟩
          · have hn : nearB cum (dk e) = true := by unfold nearB; rw [Bool.and_eq_true, decide_eq_true_eq, decide_eq_true_eq]; exact ⟨g1, g2⟩
            have hgl : (g.filter (nearB cum)).length ≤ 32768 := by
              have q1 := List.length_filter_le (nearB cum) g
              have q2 := nodup_sub_len g s.F G.nd G.sub
              omega
            unfold alc
            refine h5.push (ty := 33) E33 0 rfl (news := #[.int .u32 (dk e)]) rfl (by simp [Value.oneCell']) (by omega) (by omega) fun a' c' w2 h6 => ?_
            have h6 : Hs W (slP 30 1 a' ((g.filter (nearB cum)).length + 1) c' (inV .u32 (g.filter (nearB cum)) ++ [.int .u32 (dk e)]) :: pt it (.mapIter (some d.mf) c (seen.push e.born) c) :: pt b3 (.cells #[.int .u32 cum] 30 (0, 0)) :: ((tabL tb hd d s).set 2 (pt d.mf (.map es c)) ++ Z)) w2 := h6
            rw [← inV_snoc, ← filter_snoc_pos hn] at h6
            have e5 : (g.filter (nearB cum)).length + 1 = ((g ++ [dk e]).filter (nearB cum)).length := by rw [filter_snoc_pos hn]; simp
            rw [e5] at h6 ⊢
            exact ih (seen.push e.born) (g ++ [dk e]) w2 k a' c' (by omega) G' h6 (by omega)
          · exact skip (by unfold nearB; rw [Bool.and_eq_false_iff, decide_eq_false_iff_not, decide_eq_false_iff_not]; exact .inr g2)
        · exact skip (by unfold nearB; rw [Bool.and_eq_false_iff, decide_eq_false_iff_not, decide_eq_false_iff_not]; exact .inl (by omega))
  refine ⟨(leftOf es #[]).size + 1, loop _ (fun w' oa oc g hn hg h3 => ?_) (leftOf es #[]).size #[] [] w2 _ none 0 (Nat.le_refl _) (GK.start es s.F) h6 (by omega)⟩
  intro _g
  simp only [rdC_mk, rdA_mk]
  have hfr : ∀ t ∈ g.filter (nearB cum), 0 ≤ t ∧ t < 4294967296 := fun t ht => hr t ((hg t).1 (List.mem_filter.1 ht).1)
  have hgl : (g.filter (nearB cum)).length ≤ 32768 := by
    have q1 := List.length_filter_le (nearB cum) g
    have q2 := nodup_sub_len g s.F hn fun k hk => (hg k).1 hk
    omega
  refine cl (c34 hfr (by omega) h3) ?_
  rintro _ w3 ⟨rfl, h4⟩
  have hsort := sortD (cum := cum) (g := g.filter (nearB cum)) (g' := s.F.filter (nearB cum)) (hn.filter _) hfr (fun t => by rw [List.mem_filter, List.mem_filter, hg]) (hF.filter _)
  rw [hsort] at h4
  have hlen : (g.filter (nearB cum)).length = (fixS s.F cum).length := by
    unfold fixS
    rw [List.length_mergeSort]
    exact nodup_same_len (hn.filter _) (hF.filter _) fun t => by rw [List.mem_filter, List.mem_filter, hg]
  rw [hlen] at h4 ⊢
  refine ⟨rfl, oa, oc, by first | rfl | trivial, ?_⟩
  have h5 : Hs W (slP 30 1 oa (fixS s.F cum).length oc (inV .u32 (fixS s.F cum)) :: pt b3 (.cells #[.int .u32 cum] 30 (0, 0)) :: (tabL tb hd d s ++ Z)) w3 := h4
  exact (h5.perm (List.Perm.swap _ _ _)).drop
end
end Go.Proofs.Ytaflmpbeonoilaa
namespace Go.Proofs.Ytaflmpbeonoilaa
open Go Go.Sh Go.RowKit
def newS (n : Nat) (lim : Int) : St := ⟨lim, [], [], List.replicate n 0, [], []⟩
theorem newS_tot (n : Nat) (lim : Int) : tot (newS n lim) = 0 := rfl
theorem newS_ok (n : Nat) (lim : Int) : OkB (newS n lim) := ⟨⟨by simp [newS, keys], by simp [newS], by simp [newS], by simp [newS], by simp [newS], by simp [newS], by simp [newS], by simp [newS], by rw [newS_tot]; omega⟩, by simp [newS], by simp [newS]⟩
theorem zeros16 (n : Nat) : (madeCells (Value.int .u16 0).cells (n * 1)).toList = inV .u16 (List.replicate n 0) := by
  apply List.ext_getElem?
  intro i
  by_cases hi : i < n
  · rw [inV_at (x := 0) (by simp [hi])]
    simp [madeCells, Value.cells, Nat.mod_one, hi]
  · rw [List.getElem?_eq_none (by simp [madeCells]; omega), List.getElem?_eq_none (by rw [inV_length]; simp; omega)]
section
variable {W w : World} {L M Z : List HP} {tb mc mf : Nat} {hd : Int} {d : TD} {s : St} {es : List Ec} {F : List Int} {c : Ch}
theorem c9_bad {n1 n2 : Int} (hb : n1 < 1 ∨ 1024 < n1 ∨ n2 < 1 ∨ 1073741824 < n2) (w : World) : Calls Try.prog 9 #[.int .i64 n1, .int .i64 n2] w (rt (KR (.tuple #[.pointer none, .int .i64 1]) w)) := by
  refine F9_ok ?_
  unfold F9
  simp only [rdI_mk, br_dec]
  refine ⟨fun _ => KR.mk _ _, fun h1 => ⟨fun _ => KR.mk _ _, fun h2 => ⟨fun _ => KR.mk _ _, fun h3 => ⟨fun _ => KR.mk _ _, fun h4 => ?_⟩⟩⟩⟩
  exfalso; omega
theorem alc_mapv {K : Nat → World → Prop} (h : Hs W L w) (hk : ∀ m w', Hs W (mapV .u32 m (fun _ => none) :: L) w' → K m w') : alc (.map #[] 0) w K := hk _ _ (h.mapv_new .u32)
theorem c9 {n : Nat} {n2 : Int} (hn : 1 ≤ n ∧ n ≤ 1024) (h2 : 1 ≤ n2 ∧ n2 ≤ 1073741824) (h : Hs W L w) : Calls Try.prog 9 #[.int .i64 (n : Int), .int .i64 n2] w (rt fun v w' => ∃ tb, v = .tuple #[.pointer (some ⟨tb, 0, none⟩), .int .i64 0] ∧ Hs W (tabP tb (tot (newS n n2)) (newS n n2) :: L) w') := by
  refine F9_ok ?_
  unfold F9
  simp only [rdI_mk, br_dec]
  refine ⟨fun _ => by exfalso; omega, fun _ => ⟨fun _ => by exfalso; omega, fun _ => ⟨fun _ => by exfalso; omega, fun _ => ⟨fun _ => by exfalso; omega, fun _ => ?_⟩⟩⟩⟩
  unfold F9_1
  simp only [rdI_mk]
  refine alc_mapv h fun mc w1 h3 => alc_mapv h3 fun mf w2 h4 => ?_
  refine h4.make (n := n) E46 (show n * 1 ≤ 16777216 by omega) (show 2 * n ≤ 281474976710656 by omega) (show n ≤ 281474976710656 by omega) fun na w3 h5 _ => ?_
  rw [zeros16] at h5
  refine h5.alc fun tb w4 h6 => ?_
  intro _g
  simp only [rdP_mk]
  refine ⟨tb, by first | rfl | trivial, ?_⟩
  obtain ⟨d, hd⟩ : ∃ d : TD, d = ⟨mc, mf, na, n, [], [], none, 0, [], none, 0⟩ := ⟨_, rfl⟩
  refine tab_shut (d := d) ⟨by subst hd; rfl, by subst hd; rfl, by subst hd; rfl⟩ ?_
  have k1 : Hs W (pt tb (.cells (R69.mk (some mc) (some mf) 0 na n n n2 none 0 0 none 0 0).c 70 (0, 0)) :: slP 31 1 na n n (inV .u16 (List.replicate n 0)) :: mapV .u32 mf (fun _ => none) :: mapV .u32 mc (fun _ => none) :: L) w4 := h6
  have k2 := ((k1.nil 33 1).nil 39 5)
  have k3 : Hs W (bigS [] :: bigS [] :: bigS [] :: slP 39 5 none 0 0 [] :: slP 33 1 none 0 0 [] :: pt tb (.cells (R69.mk (some mc) (some mf) 0 na n n n2 none 0 0 none 0 0).c 70 (0, 0)) :: slP 31 1 na n n (inV .u16 (List.replicate n 0)) :: mapV .u32 mf (fun _ => none) :: mapV .u32 mc (fun _ => none) :: L) w4 :=
    Hs.cons_emp.2 (Hs.cons_emp.2 (Hs.cons_emp.2 k2))
  have k4 := k3.toO 3 rfl
  have e1 : cMap ([] : List Ec) = fun _ => none := rfl
  have e2 : fMap ([] : List Int) = fun _ => none := by funext k; simp [fMap]
  subst hd
  unfold tabL newS
  simp only [List.length_replicate, List.map_nil, e1, e2]
  have hnl : (List.replicate n (0 : Int)).length = n := by simp
  unfold tabC
  simp only [List.length_replicate, List.length_nil]
  refine k4.perm ?_
  let A : List HP := [bigS [], bigS [], bigS [], slO 39 5 none 0 0 [], slP 33 1 none 0 0 []]
  let T : HP := pt tb (.cells (R69.mk (some mc) (some mf) 0 na n n n2 none 0 0 none 0 0).c 70 (0, 0))
  let N : HP := slP 31 1 na n n (inV .u16 (List.replicate n 0))
  let X : HP := mapV .u32 mf (fun _ => none)
  let Y : HP := mapV .u32 mc (fun _ => none)
  have p1 : (A ++ T :: N :: X :: Y :: L).Perm ([T, N, X, Y] ++ (A ++ L)) := by
    have := (List.perm_append_comm (l₁ := A) (l₂ := [T, N, X, Y])).append_right L
    simpa using this
  have p2 : ([T, N, X, Y] ++ (A ++ L)).Perm (T :: Y :: X :: N :: slP 33 1 none 0 0 [] :: slO 39 5 none 0 0 [] :: bigS [] :: bigS [] :: bigS [] :: L) := by
    refine List.Perm.cons T ?_
    have q1 : [N, X, Y].Perm [Y, X, N] := (List.reverse_perm [N, X, Y]).symm
    have q2 : A.Perm [slP 33 1 none 0 0 [], slO 39 5 none 0 0 [], bigS [], bigS [], bigS []] := (List.reverse_perm A).symm
    exact q1.append (q2.append_right L)
  exact p1.trans p2
theorem c12 (t f st ssn : Int) (a : Option Addr) (n cc : Nat) (w : World) : Calls Try.prog 12 #[.int .u32 t, .int .u8 f, .int .u16 st, .int .u16 ssn, .slice a n cc] w (rt fun v w' => v = (R35.mk 0 f t st ssn 0 0 0 0 0 none 0 0 none 0 0 none 0 0 a n cc none 0 0).v ∧ Same w w') := by
  refine F12_ok ?_
  unfold F12
  simp only [rdI_mk, rdC_mk]
  refine (Hs.start w).alc fun b w1 h1 => ?_
  refine h1.stcL 0 rfl rfl fun w2 h2 => ?_
  refine ldR35_of (s := R35.mk 0 f t st ssn 0 0 0 0 0 none 0 0 none 0 0 none 0 0 a n cc none 0 0) (h2.atL 0 rfl) ?_
  exact ⟨rfl, h2.old⟩
/-- two lists of numbers are compared -/
theorem c15 {a b : Option Addr} {x y : List Int} {ca cb : Nat} (ha : Rd w a (inV .u32 x)) (hb : Rd w b (inV .u32 y)) (hl : x.length ≤ 4294967296) : Calls Try.prog 15 #[.slice a x.length ca, .slice b y.length cb] w (rt fun v w' => v = .bool (decide (x = y)) ∧ Same w w') := by
  refine F15_ok ?_
  unfold F15
  simp only [rdC_mk]
  by_cases he : x.length = y.length
  · have e0 : ((x.length : Int) != (y.length : Int)) = false := by rw [he]; simp
    rw [e0, br_false]
    have loop : ∀ (i j : Nat) (w1 : World) (k : Nat) (K0 : World → Prop) (Kr : Value → World → Prop), j + i = x.length → x.take j = y.take j → Same w w1 → i < k → (x = y → ∀ w', Same w w' → K0 w') → (x ≠ y → ∀ w', Same w w' → Kr (.bool false) w') →
        F15_1 K0 Kr k (.slice a x.length ca) (.slice b y.length cb) (.int .i64 (j : Int)) w1 := by
      intro i
      induction i with
      | zero =>
        intro j w1 k K0 Kr hj ht hs hk h0 h1
        obtain ⟨k, rfl⟩ : ∃ j, k = j + 1 := ⟨k - 1, by omega⟩
        show F15_1B _ _ _ _ _ _ _
        unfold F15_1B
        simp only [rdC_mk, rdI_mk, br_dec]
        refine ⟨fun hlt => by exfalso; omega, fun _ => h0 ?_ _ hs⟩
        rw [List.take_of_length_le (by omega), List.take_of_length_le (by omega)] at ht
        exact ht
      | succ i ih =>
        intro j w1 k K0 Kr hj ht hs hk h0 h1
        obtain ⟨k, rfl⟩ : ∃ j, k = j + 1 := ⟨k - 1, by omega⟩
        show F15_1B _ _ _ _ _ _ _
        unfold F15_1B
        simp only [rdC_mk, rdI_mk, br_dec]
        refine ⟨fun _ => ?_, fun hlt => by exfalso; omega⟩
        unfold drw
        have hs' := hs.trans (Fr.refl w1).drew fun _ _ x => x
        obtain ⟨u, hu⟩ : ∃ u, x[j]? = some u := ⟨x[j]'(by omega), by simp⟩
        obtain ⟨v, hv⟩ : ∃ v, y[j]? = some v := ⟨y[j]'(by omega), by simp⟩
        have ha1 := ha.fr hs' fun _ _ x => x
        have hb1 := hb.fr hs' fun _ _ x => x
        obtain ⟨ad, had⟩ := ha1.some (by rw [inV_length]; omega)
        obtain ⟨bd, hbd⟩ := hb1.some (by rw [inV_length]; omega)
        rw [had] at ha1
        rw [hbd] at hb1
        rw [had, hbd]
        refine ixS_to rfl (by omega) ?_
        rw [Nat.mul_one]
        refine ldI_c (ha1.at (inV_at hu)) ?_
        refine ixS_to rfl (by omega) ?_
        rw [Nat.mul_one]
        refine ldI_c (hb1.at (inV_at hv)) ?_
        rw [br_iff]
        refine ⟨fun hne => h1 (fun e => ?_) _ hs', fun hne => ?_⟩
        · rw [e, hv] at hu
          cases hu
          simp at hne
        · have e : u = v := by simpa using hne
          have e1 : IntKind.wrap .i64 ((j : Int) + 1) = ((j + 1 : Nat) : Int) := by rw [wrap_i64 (by omega) (by omega)]; omega
          rw [e1, ← had, ← hbd]
          refine ih (j + 1) _ k K0 Kr (by omega) ?_ hs' (by omega) h0 h1
          rw [List.take_add_one, List.take_add_one, ht, hu, hv, e]
    refine ⟨x.length + 1, loop x.length 0 w _ _ _ (by omega) rfl (Fr.refl w) (by omega) (fun e w' hs _g => ?_) fun e w' hs _g => ?_⟩
    · rw [decide_eq_true e]; exact ⟨by first | rfl | trivial, hs⟩
    · simp only [rdB_mk]
      rw [decide_eq_false e]; exact ⟨by first | rfl | trivial, hs⟩
  · have e0 : ((x.length : Int) != (y.length : Int)) = true := by rw [bne_iff_ne]; omega
    rw [e0, br_true]
    exact ⟨by rw [decide_eq_false fun e => he (by rw [e])], Fr.refl w⟩
end
end Go.Proofs.Ytaflmpbeonoilaa
