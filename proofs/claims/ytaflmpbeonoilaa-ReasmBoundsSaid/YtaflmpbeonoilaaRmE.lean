/-
  What is known, how many; a row's message.
-/
import Derived.Test.YtaflmpbeonoilaaShTl
namespace Go.Proofs.Ytaflmpbeonoilaa
open Go Go.Sh
section
variable {W w : World} {L M : List HP} {tb mc mf : Nat} {hd : Int} {d : TD} {s : St} {es : List Ec} {F : List Int}
theorem c24_none (w : World) : Calls Try.prog 24 #[.pointer none] w (rt (KR (.bool false) w)) := by
  refine F24_ok ?_
  unfold F24
  simp only [rdP_mk]
  exact KR.mk _ _
theorem c24 {cs : Array Value} {m : Option Nat} (h : w.heap[tb]? = some (.cells cs 70 (0, 0))) (h0 : cs[0]? = some (.map m)) : Calls Try.prog 24 #[.pointer (some ⟨tb, 0, none⟩)] w (rt (KR (.bool m.isSome) w)) := by
  refine F24_ok ?_
  unfold F24
  simp only [rdP_mk, Option.isNone_some, Bool.not_false, br_true, nn_some, add_mk]
  refine ldM_at h h0 ?_
  cases m <;> exact KR.mk _ _
theorem c24t (h : Hs W (tabL tb hd d s ++ L) w) : Calls Try.prog 24 #[.pointer (some ⟨tb, 0, none⟩)] w (rt (KR (.bool true) w)) := c24 (h.at 0 rfl) rfl
theorem c25 (h : RT w tb mc mf es F) (k : Int) : Calls Try.prog 25 #[.pointer (some ⟨tb, 0, none⟩), .int .u32 k] w (rt fun v w' => v = .bool ((look (pl es) k).isSome || decide (k ∈ F)) ∧ Same w w') := by
  refine F25_ok ?_
  unfold F25
  simp only [rdP_mk, rdI_mk, nn_some, add_mk]
  refine h.ldC0 ?_
  obtain ⟨s1, h1, _⟩ := h.look k
  refine exR35_of s1 ⟨_, h1 true, ?_⟩
  refine (Hs.start w).alc fun b8 w9 h9 => ?_
  refine h9.stcL 0 rfl rfl fun w10 h10 => ?_
  rw [br_iff]
  refine ⟨fun e => ⟨by rw [e]; rfl, h10.old⟩, fun e => ?_⟩
  have h10' := h.same h10.old
  refine h10'.ldC1 ⟨decide (k ∈ F), ?_, by rw [e, Bool.false_or], h10.old⟩
  rw [look_val u30 z4 h10'.fix]
  unfold fMap
  by_cases hk : k ∈ F
  · rw [if_pos hk, decide_eq_true hk]; rfl
  · rw [if_neg hk, decide_eq_false hk]; rfl
theorem nodup_same_len {a b : List Int} (ha : a.Nodup) (hb : b.Nodup) (h : ∀ x, x ∈ a ↔ x ∈ b) : a.length = b.length :=
  Nat.le_antisymm (nodup_sub_len a b ha fun x hx => (h x).1 hx) (nodup_sub_len b a hb fun x hx => (h x).2 hx)
theorem vval_mem_fst {l : List (Int × Value)} {k : Int} : k ∈ l.map Prod.fst ↔ (vval l k).isSome = true := by
  constructor
  · intro h
    obtain ⟨u, hu⟩ := vval_mem h
    rw [hu]; rfl
  · intro h
    induction l with
    | nil => cases h
    | cons p l ih =>
      simp only [vval] at h
      by_cases hk : k = p.1
      · simp [hk]
      · rw [if_neg hk] at h
        simp only [List.map_cons, List.mem_cons]
        exact .inr (ih h)
theorem mapv_size {m : Nat} {f : Int → Option Value} (h : MapV .u32 w m f) {ks : List Int} (hn : ks.Nodup) (hk : ∀ k, k ∈ ks ↔ (f k).isSome = true) : ∃ es c, w.heap[m]? = some (.map es c) ∧ es.size = ks.length := by
  obtain ⟨es, c, l, h1, h2, h3, h4, _⟩ := h
  refine ⟨es, c, h1, ?_⟩
  have e1 : es.size = l.length := by
    have := congrArg List.length h2
    simpa using this
  have := nodup_same_len h3 hn fun x => by rw [vval_mem_fst, h4, hk]
  simp only [List.length_map] at this
  omega
theorem cMap_some (es : List Ec) (k : Int) : k ∈ (pl es).map Ch.tsn ↔ (cMap es k).isSome = true := by
  rw [← look_isSome, ← cMap_look]
  unfold cMap
  cases es.find? fun e => e.x.tsn == k <;> rfl
theorem fMap_some (F : List Int) (k : Int) : k ∈ F ↔ (fMap F k).isSome = true := by
  unfold fMap
  by_cases h : k ∈ F
  · simp [h]
  · simp [h]
theorem c26 (h : RT w tb mc mf es F) (hn : ((pl es).map Ch.tsn).Nodup) (hF : F.Nodup) (hb : es.length + F.length ≤ 4294967296) : Calls Try.prog 26 #[.pointer (some ⟨tb, 0, none⟩)] w (rt fun v w' => v = .int .i64 ((es.length + F.length : Nat) : Int) ∧ Same w w') := by
  refine F26_ok ?_
  unfold F26
  simp only [rdP_mk, nn_some, add_mk]
  have s1 : Same w w.drew := (Fr.refl w).drew
  unfold drw
  have h1 := h.same s1
  refine h1.ldC0 (h1.ldC1 ?_)
  obtain ⟨e1, c1, g1, l1⟩ := mapv_size h1.map hn (cMap_some es)
  obtain ⟨e2, c2, g2, l2⟩ := mapv_size h1.fix hF (fMap_some F)
  refine ⟨_, _, Sh.run_len_map (P := Try.prog) (ats := #[64]) (t := 3) rfl u64 g1 l1, Pres.refl _, _, _, Sh.run_len_map (P := Try.prog) (ats := #[65]) (t := 3) rfl u65 g2 l2, ?_, s1⟩
  have : ((pl es).map Ch.tsn).length = es.length := by simp [pl]
  rw [this, wrap_i64 (by omega) (by omega)]
  congr 1
theorem c18 (h : Hs W (tabL tb hd d s ++ L) w) : Calls Try.prog 18 #[.pointer (some ⟨tb, 0, none⟩)] w (rt (KR (.int .i64 hd) w)) := by
  refine F18_ok ?_
  unfold F18
  simp only [rdP_mk]
  refine clr (c24t h) ⟨_, rfl, ?_⟩
  simp only [Bool.not_true, br_false, nn_some, add_mk]
  exact h.ldI 0 rfl rfl (KR.mk _ _)
theorem c16 (h : Hs W (tabL tb hd d s ++ L) w) : Calls Try.prog 16 #[.pointer (some ⟨tb, 0, none⟩)] w (rt (KR (.int .i64 (d.ms.length : Int)) w)) := by
  refine F16_ok ?_
  unfold F16
  simp only [rdP_mk]
  refine clr (c24t h) ⟨_, rfl, ?_⟩
  simp only [Bool.not_true, br_false, nn_some, add_mk]
  exact h.ldC 0 rfl rfl (KR.mk _ _)
/-! a row's message -/
def bodyOf (L : List Ch) (t : Int) : List Int := match look L t with | some x => x.b | none => []
def msgOf (x : Ch) (D : List Int) : Ms := ⟨x.r.f3, if x.has 4 then 0 else x.r.f4, x.r.f5, x.has 4, D⟩
def tellS (s : St) (row : List Int) : St :=
  { s with L := s.L.filter fun x => !row.contains x.tsn, F := s.F ++ row,
           M := s.M ++ [msgOf ((look s.L (row.headD 0)).getD ⟨R35.z, []⟩) (row.flatMap (bodyOf s.L))] }
def rem (es : List Ec) (l : List Int) : List Ec := es.filter fun e => !l.contains e.x.tsn
theorem rem_nil (es : List Ec) : rem es [] = es := by unfold rem; simp
theorem rem_snoc (es : List Ec) (l : List Int) (t : Int) : (rem es l).filter (fun e => e.x.tsn != t) = rem es (l ++ [t]) := by
  unfold rem
  rw [List.filter_filter]
  congr 1
  funext e
  simp only [List.contains_eq_mem, List.mem_append, List.mem_singleton]
  by_cases h1 : e.x.tsn = t <;> by_cases h2 : e.x.tsn ∈ l <;> simp [h1, h2]
theorem rem_find {es : List Ec} {l : List Int} {t : Int} (h : t ∉ l) : ((rem es l).find? fun e => e.x.tsn == t) = es.find? fun e => e.x.tsn == t := by
  unfold rem
  rw [List.find?_filter]
  congr 1
  funext e
  by_cases he : e.x.tsn = t
  · simp [he, h]
  · simp [he]
theorem cMap_del (es : List Ec) (t : Int) : updV (cMap es) t none = cMap (es.filter fun e => e.x.tsn != t) := by
  funext k
  unfold updV cMap
  rw [List.find?_filter]
  by_cases hk : k = t
  · subst hk
    rw [if_pos rfl]
    have : (es.find? fun a => (a.x.tsn != k && a.x.tsn == k)) = none := by
      rw [List.find?_eq_none]
      intro e _
      by_cases he : e.x.tsn = k <;> simp [he]
    have h2 : (fun a : Ec => decide ((a.x.tsn != k) = true ∧ (a.x.tsn == k) = true)) = fun a => (a.x.tsn != k && a.x.tsn == k) := by
      funext a
      by_cases he : a.x.tsn = k <;> simp [he]
    rw [h2, this]; rfl
  · rw [if_neg hk]
    congr 2
    funext e
    by_cases he : e.x.tsn = k
    · simp [he, hk]
    · simp [he]
theorem fMap_put (F : List Int) (t : Int) : updV (fMap F) t (some (.bool true)) = fMap (F ++ [t]) := by
  funext k
  unfold updV fMap
  by_cases hk : k = t
  · simp [hk]
  · simp [hk]
/-- some of many like parts are let go -/
theorem big_filter {α : Type} {G : α → HP} {l : List α} (p : α → Bool) (h : Hs W L w) (i : Nat) (hi : L[i]? = some (bigS (l.map G))) : Hs W (L.set i (bigS ((l.filter p).map G))) w := by
  have hlt := (List.getElem?_eq_some_iff.1 hi).1
  have hp : (l.map G).Perm ((l.filter fun x => !p x).map G ++ (l.filter p).map G) := by
    rw [← List.map_append]
    exact ((List.filter_append_perm p l).symm.trans List.perm_append_comm).map G
  have h1 : Hs W (((l.filter fun x => !p x).map G ++ (l.filter p).map G) ++ L.eraseIdx i) w := by
    refine Hs.cons_bigS.1 ?_
    rw [← bigS_perm hp]
    exact h.focus hi
  rw [List.append_assoc] at h1
  exact (Hs.cons_bigS.2 h1.dropL).unfocus hlt
end
end Go.Proofs.Ytaflmpbeonoilaa
