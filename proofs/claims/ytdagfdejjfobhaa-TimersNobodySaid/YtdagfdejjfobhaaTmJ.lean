/-
  A table: all that are set; tidying; Set; Due.
-/
import Derived.Test.YtdagfdejjfobhaaTmS
namespace Go.Proofs.Ytdagfdejjfobhaa
open Go Go.Sh Go.Tm
open Go.RowKit
/-! plain -/
theorem eq_of_srt : ∀ {a b : List Du}, a.Pairwise lt → b.Pairwise lt → (∀ x, x ∈ a ↔ x ∈ b) → a = b
  | [], [], _, _, _ => rfl
  | [], y :: b, _, _, h => by have := (h y).2 (by simp); simp at this
  | x :: a, [], _, _, h => by have := (h x).1 (by simp); simp at this
  | x :: a, y :: b, ha, hb, h => by
    rw [List.pairwise_cons] at ha hb
    have hxy : x = y := by
      have h1 := (h x).1 (by simp)
      have h2 := (h y).2 (by simp)
      rcases List.mem_cons.1 h1 with e | e
      · exact e
      · rcases List.mem_cons.1 h2 with e' | e'
        · exact e'.symm
        · exact absurd (hb.1 x e) (lt_asymm (ha.1 y e'))
    subst hxy
    have : a = b := eq_of_srt ha.2 hb.2 fun z => by
      constructor
      · intro hz
        rcases List.mem_cons.1 ((h z).1 (by simp [hz])) with e | e
        · subst e; exact absurd (ha.1 z hz) (lt_irrefl _)
        · exact e
      · intro hz
        rcases List.mem_cons.1 ((h z).2 (by simp [hz])) with e | e
        · subst e; exact absurd (hb.1 z hz) (lt_irrefl _)
        · exact e
    rw [this]
theorem le_tr (a b c : Du) (h : le a b = true) (g : le b c = true) : le a c = true := by
  unfold le at *
  simp only [decide_eq_true_eq] at *
  exact le_trans h g
theorem le_tot (a b : Du) : (le a b || le b a) = true := by
  unfold le
  by_cases h : lt b a
  · simp [h, lt_asymm h]
  · simp [h]
theorem sort_eq {g l : List Du} (hl : l.Pairwise lt) (hg : g.Nodup) (h : ∀ x, x ∈ g ↔ x ∈ l) : g.mergeSort le = l := by
  have hp := List.mergeSort_perm g le
  have h1 : (g.mergeSort le).Pairwise fun a b => le a b = true := List.pairwise_mergeSort le_tr le_tot g
  have h2 : (g.mergeSort le).Nodup := hp.nodup_iff.2 hg
  have h3 : (g.mergeSort le).Pairwise lt := (h1.and h2).imp fun {a b} ⟨p, q⟩ => by
    unfold le at p
    simp only [decide_eq_true_eq] at p
    have q : a ≠ b := q
    by_cases e : a.2 = b.2
    · have : a.1 ≠ b.1 := fun e' => q (Prod.ext e' e)
      unfold lt at *
      omega
    · unfold lt at *
      omega
  exact eq_of_srt h3 hl fun x => by rw [hp.mem_iff]; exact h x
def intOf : Value → Int
  | .int _ n => n
  | _ => 0
def dec (e : MapEntry) : Du := (intOf e.key, intOf e.val)
/-- what has been gathered of a map so far -/
structure Gth (es : Array MapEntry) (seen : Array Nat) (l g : List Du) : Prop where
  sub : ∀ d ∈ g, d ∈ l
  ids : (g.map Prod.fst).Nodup
  got : ∀ e ∈ es.toList, seen.contains e.born = true ↔ dec e ∈ g
section
variable {es : Array MapEntry} {seen : Array Nat} {l g l0 : List Du} {c : Nat}
theorem dec_int {e : MapEntry} (h1 : MRep .i64 .i64 es.toList l0) (he : e ∈ es.toList) : e.key = .int .i64 (dec e).1 ∧ e.val = .int .i64 (dec e).2 ∧ dec e ∈ l0 := by
  obtain ⟨j, hj⟩ := List.getElem?_of_mem he
  have hi := congrArg (·[j]?) h1
  simp only [List.getElem?_map, hj, Option.map_some] at hi
  cases hq : l0[j]? with
  | none => rw [hq] at hi; cases hi
  | some q =>
    rw [hq] at hi
    simp only [Option.map_some, Option.some.injEq, Prod.mk.injEq] at hi
    have e1 : dec e = q := by unfold dec; rw [hi.1, hi.2]; rfl
    rw [e1]
    exact ⟨hi.1, hi.2, List.mem_of_getElem? hq⟩
theorem dec_of {d : Du} (h1 : MRep .i64 .i64 es.toList l0) (hd : d ∈ l0) : ∃ e ∈ es.toList, dec e = d := by
  obtain ⟨j, hj⟩ := List.getElem?_of_mem hd
  have hi := congrArg (·[j]?) h1
  simp only [List.getElem?_map, hj, Option.map_some] at hi
  cases he : es.toList[j]? with
  | none => rw [he] at hi; cases hi
  | some e =>
    rw [he] at hi
    simp only [Option.map_some, Option.some.injEq, Prod.mk.injEq] at hi
    refine ⟨e, List.mem_of_getElem? he, ?_⟩
    unfold dec
    rw [hi.1, hi.2]; rfl
theorem mem_l0 (h2 : (l0.map Prod.fst).Nodup) (h3 : ∀ k, mval l0 k = mval l k) (hl : (l.map Prod.fst).Nodup) (d : Du) : d ∈ l0 ↔ d ∈ l := by
  rw [← mval_iff (k := d.1) (t := d.2) h2, ← mval_iff (k := d.1) (t := d.2) hl, h3]
theorem nodup_inj {α β : Type} {f : α → β} : ∀ {l : List α}, (l.map f).Nodup → ∀ {a b : α}, a ∈ l → b ∈ l → f a = f b → a = b
  | [], _, _, _, h, _, _ => by simp at h
  | x :: l, hn, a, b, ha, hb, he => by
    simp only [List.map_cons, List.nodup_cons] at hn
    rcases List.mem_cons.1 ha with e1 | ha'
    · rcases List.mem_cons.1 hb with e2 | hb'
      · rw [e1, e2]
      · exact absurd (List.mem_map.2 ⟨b, hb', by rw [← he, e1]⟩) hn.1
    · rcases List.mem_cons.1 hb with e2 | hb'
      · exact absurd (List.mem_map.2 ⟨a, ha', by rw [he, e2]⟩) hn.1
      · exact nodup_inj hn.2 ha' hb' he
theorem Gth.start (es : Array MapEntry) (l : List Du) : Gth es #[] l [] := ⟨by simp, by simp, by simp⟩
theorem Gth.step {e : MapEntry} (G : Gth es seen l g) (h1 : MRep .i64 .i64 es.toList l0) (h2 : (l0.map Prod.fst).Nodup) (h3 : ∀ k, mval l0 k = mval l k) (h4 : MapKept.Stamped es c) (hl : (l.map Prod.fst).Nodup) (he : e ∈ (leftOf es seen).toList) : Gth es (seen.push e.born) l (g ++ [dec e]) := by
  obtain ⟨hm, hs⟩ := mem_left he
  obtain ⟨k1, k2, k3⟩ := dec_int h1 hm
  have hdl := (mem_l0 h2 h3 hl _).1 k3
  have hng : dec e ∉ g := fun hg => by
    have := (G.got e hm).2 hg
    rw [hs] at this
    cases this
  refine ⟨fun d hd => ?_, ?_, fun e' he' => ?_⟩
  · rcases List.mem_append.1 hd with hd | hd
    · exact G.sub d hd
    · rw [List.mem_singleton.1 hd]; exact hdl
  · rw [List.map_append, List.nodup_append]
    refine ⟨G.ids, by simp, fun a ha b hb hab => ?_⟩
    simp only [List.map_cons, List.map_nil, List.mem_singleton] at hb
    subst hb
    obtain ⟨d, hd, rfl⟩ := List.mem_map.1 ha
    have : d = dec e := nodup_inj hl (G.sub d hd) hdl hab
    rw [this] at hd
    exact hng hd
  · rw [Array.contains_push, Bool.or_eq_true, G.got e' he', List.mem_append, List.mem_singleton]
    constructor
    · rintro (h | h)
      · exact .inl h
      · refine .inr ?_
        have : e'.born = e.born := by simpa using h
        rw [nodup_inj h4.2.1 he' hm this]
    · rintro (h | h)
      · exact .inl h
      · refine .inr ?_
        obtain ⟨q1, _, _⟩ := dec_int h1 he'
        have : e'.key = e.key := by rw [q1, k1, h]
        rw [nodup_inj h4.2.2 he' hm this]
        simp
theorem Gth.done (G : Gth es seen l g) (h1 : MRep .i64 .i64 es.toList l0) (h2 : (l0.map Prod.fst).Nodup) (h3 : ∀ k, mval l0 k = mval l k) (hl : (l.map Prod.fst).Nodup) (h0 : (leftOf es seen).size = 0) (d : Du) : d ∈ g ↔ d ∈ l := by
  refine ⟨G.sub d, fun hd => ?_⟩
  obtain ⟨e, he, rfl⟩ := dec_of h1 ((mem_l0 h2 h3 hl d).2 hd)
  refine (G.got e he).1 ?_
  cases hc : seen.contains e.born with
  | true => rfl
  | false =>
    exfalso
    have : e ∈ leftOf es seen := by
      unfold leftOf
      exact Array.mem_filter.2 ⟨by simpa using he, by rw [hc]; rfl⟩
    have hp := Array.size_pos_of_mem this
    omega
end
section
variable {W w : World} {L M P : List HP} {tb lc m n nn i j : Nat} {la : Option Addr} {h h0 : Nat → Du} {last : Int} {f : Int → Option Int} {l : List Du}
theorem c30g (li : LI l) (hmv : ∀ k, f k = mval l k) (hs : Hs W (hpL tb la lc m n h last ++ (mapP .i64 .i64 m f :: L)) w) : Calls Try.prog 30 #[.pointer (some ⟨tb, 0, none⟩)] w (rt fun v w' => ∃ a c, v = .slice a l.length c ∧ Hs W (slP 30 2 a l.length c (duV l) :: (hpL tb la lc m n h last ++ (mapP .i64 .i64 m f :: L))) w') := by
  refine F30_ok ?_
  unfold F30
  simp only [rdP_mk, nn_some, add_mk]
  refine hs.ldM 0 rfl rfl ?_
  obtain ⟨es, c, l0, h1, e1, e2, e3, e4⟩ := hs.map_open 2 rfl
  have h1 : Hs W (hpL tb la lc m n h last ++ (pt m (.map es c) :: L)) w := h1
  have e3' : ∀ k, mval l0 k = mval l k := fun k => (e3 k).trans (hmv k)
  refine ⟨_, _, run_range_at u51 (h1.at 2 rfl), ?_⟩
  have h2 := h1.alloc (.mapIter (some m) c #[] c)
  generalize w.alloc (.mapIter (some m) c #[] c) = w2 at h2 ⊢
  generalize w.heap.size = it at h2 ⊢
  have loop : ∀ (K0 : Value → World → Prop), (∀ w' oa oc (g : List Du), g.Nodup → (∀ d, d ∈ g ↔ d ∈ l) → Hs W (slP 30 2 oa g.length oc (duV g) :: (hpL tb la lc m n h last ++ (mapP .i64 .i64 m f :: L))) w' → K0 (.slice oa g.length oc) w') →
      ∀ (i : Nat) (seen : Array Nat) (g : List Du) (w' : World) (k : Nat) (oa : Option Addr) (oc : Nat), (leftOf es seen).size ≤ i → Gth es seen l g →
      Hs W (slP 30 2 oa g.length oc (duV g) :: pt it (.mapIter (some m) c seen c) :: (hpL tb la lc m n h last ++ (pt m (.map es c) :: L))) w' → i < k →
      F30_1 K0 k (.slice oa g.length oc) (.pointer (some ⟨it, 0, none⟩)) w' := by
    intro K0 hK0 i
    induction i with
    | zero =>
      intro seen g w' k oa oc hi G hh hk
      obtain ⟨k, rfl⟩ : ∃ j, k = j + 1 := ⟨k - 1, by omega⟩
      show F30_1B _ _ _ _ _
      unfold F30_1B
      simp only [rdC_mk]
      refine hh.next 1 4 rfl rfl e4.1 (Nat.le_refl _) (fun hz => ?_) fun e he w1 h5 => ?_
      · have h6 := hh.erase 1
        have h6 : Hs W (slP 30 2 oa g.length oc (duV g) :: (hpL tb la lc m n h last ++ (pt m (.map es c) :: L))) w' := h6
        have h7 := h6.map_shut (l := l0) (f := f) (kk := .i64) (kv := .i64) 3 rfl ⟨e1, e2, e3, e4⟩
        have hnd : g.Nodup := by
          have := G.ids
          exact List.Pairwise.of_map Prod.fst (fun a b hab e => hab (by rw [e])) this
        exact hK0 w' oa oc g hnd (G.done e1 e2 e3' li.ids hz) h7
      · exfalso
        have := List.length_pos_of_mem he
        simp at this
        omega
    | succ i ih =>
      intro seen g w' k oa oc hi G hh hk
      obtain ⟨k, rfl⟩ : ∃ j, k = j + 1 := ⟨k - 1, by omega⟩
      show F30_1B _ _ _ _ _
      unfold F30_1B
      simp only [rdC_mk]
      refine hh.next 1 4 rfl rfl e4.1 (Nat.le_refl _) (fun hz => ?_) fun e he w1 h5 => ?_
      · have h6 := hh.erase 1
        have h6 : Hs W (slP 30 2 oa g.length oc (duV g) :: (hpL tb la lc m n h last ++ (pt m (.map es c) :: L))) w' := h6
        have h7 := h6.map_shut (l := l0) (f := f) (kk := .i64) (kv := .i64) 3 rfl ⟨e1, e2, e3, e4⟩
        have hnd : g.Nodup := by
          have := G.ids
          exact List.Pairwise.of_map Prod.fst (fun a b hab e => hab (by rw [e])) this
        exact hK0 w' oa oc g hnd (G.done e1 e2 e3' li.ids hz) h7
      · have h5 : Hs W (slP 30 2 oa g.length oc (duV g) :: pt it (.mapIter (some m) c (seen.push e.born) c) :: (hpL tb la lc m n h last ++ (pt m (.map es c) :: L))) w1 := h5
        obtain ⟨hm, _⟩ := mem_left he
        have hen := h5.entry (P := Try.prog) 1 4 rfl rfl hm e4.2.1
        obtain ⟨k1, k2, k3⟩ := dec_int e1 hm
        rw [k1, k2] at hen
        refine ⟨_, _, _, hen, ?_⟩
        have G' := G.step e1 e2 e3' e4 li.ids he
        have hgl : g.length ≤ 4096 := by
          have := nodup_few 4096 (g.map Prod.fst) G.ids fun x hx => by
            obtain ⟨d, hd, rfl⟩ := List.mem_map.1 hx
            exact (li.rng d (G.sub d hd)).1
          simpa using this
        refine h5.push (ty := 22) E22 0 rfl (news := #[.int .i64 (dec e).1, .int .i64 (dec e).2]) rfl (du_one (dec e)) (by omega) (by omega) fun a' c' w2 h6 => ?_
        have h6 : Hs W (slP 30 2 a' (g.length + 1) c' (duV g ++ du (dec e)) :: pt it (.mapIter (some m) c (seen.push e.born) c) :: (hpL tb la lc m n h last ++ (pt m (.map es c) :: L))) w2 := h6
        rw [← duV_snoc] at h6
        have e5 : g.length + 1 = (g ++ [dec e]).length := by simp
        rw [e5] at h6 ⊢
        have hsh := left_shrinks es seen e he
        exact ih (seen.push e.born) (g ++ [dec e]) w2 k a' c' (by omega) G' h6 (by omega)
  refine ⟨(leftOf es #[]).size + 1, loop _ (fun w' oa oc g hn hg h3 => ?_) (leftOf es #[]).size #[] [] w2 _ none 0 (Nat.le_refl _) (Gth.start es l) (h2.nil 30 2) (by omega)⟩
  intro _g
  simp only [rdC_mk]
  have hgl : g.length ≤ 1000000 := by
    have hp : g.Perm l := (List.perm_ext_iff_of_nodup hn (List.Pairwise.of_map Prod.fst (fun a b hab e => hab (by rw [e])) li.ids)).2 hg
    have := hp.length_eq
    have := li.few
    omega
  have hlen : g.length = l.length := by
    have hp : g.Perm l := (List.perm_ext_iff_of_nodup hn (List.Pairwise.of_map Prod.fst (fun a b hab e => hab (by rw [e])) li.ids)).2 hg
    exact hp.length_eq
  refine cl (c41 h3 hgl) ?_
  rintro _ w3 ⟨rfl, h4⟩
  rw [sort_eq li.srt hn hg, hlen] at h4
  refine ⟨rfl, oa, oc, ?_, h4⟩
  rw [hlen]
theorem c30 (t : TB W [] L tb last l w) : Calls Try.prog 30 #[.pointer (some ⟨tb, 0, none⟩)] w (rt fun v w' => ∃ a c, v = .slice a l.length c ∧ TB W [slP 30 2 a l.length c (duV l)] L tb last l w') := by
  obtain ⟨la, lc, m, n, h, f, t, hs⟩ := t
  refine rt_mono (c30g t.li t.map hs) ?_
  rintro _ w' ⟨a, c, rfl, h1⟩
  exact ⟨a, c, rfl, la, lc, m, n, h, f, t, h1⟩
theorem c13 (t : TB W [] L tb last l w) : Calls Try.prog 13 #[.pointer (some ⟨tb, 0, none⟩)] w (rt fun v w' => ∃ a c, v = .slice a l.length c ∧ TB W [slP 30 2 a l.length c (duV l)] L tb last l w') := by
  refine F13_ok ?_
  unfold F13
  simp only [rdP_mk]
  refine clr (c27 t) ⟨_, rfl, ?_⟩
  rw [Bool.not_true, br_false]
  refine cl (c30 t) ?_
  rintro _ w1 ⟨a, c, rfl, t1⟩
  exact ⟨_, _, _, rfl, a, c, rfl, t1⟩
end
end Go.Proofs.Ytdagfdejjfobhaa
