/-
  What is known, how many; a row's message.
-/
import Derived.Test.YtaflmpbeonoilaaShTl
namespace Go.Proofs.Ytaflmpbeonoilaa
open Go Go.Sh
section
variable {W w : World} {L M : List HP} {tb mc mf : Nat} {hd : Int} {d : TD} {s : St} {es : List Ec} {F : List Int}
theorem c24_none (w : World) : Calls Try.prog 24 #[.pointer none] w (rt (KR (.bool false) w)) := by
  refine F24_ok ?_
  unfold F24
  simp only [rdP_mk]
  exact KR.mk _ _
theorem c24 {cs : Array Value} {m : Option Nat} (h : w.heap[tb]? = some (.cells cs 70 (0, 0))) (h0 : cs[0]? = some (.map m)) : Calls Try.prog 24 #[.pointer (some ⟨tb, 0, none⟩)] w (rt (KR (.bool m.isSome) w)) := by
  refine F24_ok ?_
  unfold F24
  simp only [rdP_mk, Option.isNone_some, Bool.not_false, br_true, nn_some, add_mk]
  refine ldM_at h h0 ?_
  cases m <;> exact KR.mk _ _
theorem c24t (h : Hs W (tabL tb hd d s ++ L) w) : Calls Try.prog 24 #[.pointer (some ⟨tb, 0, none⟩)] w (rt (KR (.bool true) w)) := c24 (h.at 0 rfl) rfl
theorem c25 (h : RT w tb mc mf es F) (k : Int) : Calls Try.prog 25 #[.pointer (some ⟨tb, 0, none⟩), .int .u32 k] w (rt fun v w' => v = .bool ((look (pl es) k).isSome || decide (k ∈ F)) ∧ Same w w') := by
  refine F25_ok ?_
  unfold F25
  simp only [rdP_mk, rdI_mk, nn_some, add_mk]
  refine h.ldC0 ?_
  obtain ⟨s1, h1, _⟩ := h.look k
  refine exR35_of s1 ⟨_, h1 true, ?_⟩
  refine (Hs.start w).alc fun b8 w9 h9 => ?_
  refine h9.stcL 0 rfl rfl fun w10 h10 => ?_
  rw [br_iff]
  refine ⟨fun e => ⟨by rw [e]; rfl, h10.old⟩, fun e => ?_⟩
  have h10' := h.same h10.old
  refine h10'.ldC1 ⟨decide (k ∈ F), ?_, by rw [e, Bool.false_or], h10.old⟩
  rw [look_val u30 z4 h10'.fix]
  unfold fMap
  by_cases hk : k ∈ F
  · rw [if_pos hk, decide_eq_true hk]; rfl
  · rw [if_neg hk, decide_eq_false hk]; rfl
theorem nodup_same_len {a b : List Int} (ha : a.Nodup) (hb : b.Nodup) (h : ∀ x, x ∈ a ↔ x ∈ b) : a.length = b.length :=
  Nat.le_antisymm (nodup_sub_len a b ha fun x hx => (h x).1 hx) (nodup_sub_len b a hb fun x hx => (h x).2 hx)
theorem vval_mem_fst {l : List (Int × Value)} {k : Int} : k ∈ l.map Prod.fst ↔ (vval l k).isSome = true := by
  constructor
  · intro h
    obtain ⟨u, hu⟩ := vval_mem h
    rw [hu]; rfl
  · intro h
    induction l with
    | nil => cases h
    | cons p l ih =>
      simp only [vval] at h
      by_cases hk : k = p.1
      · simp [hk]
      · rw [if_neg hk] at h
        simp only [List.map_cons, List.mem_cons]
        exact .inr (ih h)
theorem mapv_size {m : Nat} {f : Int → Option Value} (h : MapV .u32 w m f) {ks : List Int} (hn : ks.Nodup) (hk : ∀ k, k ∈ ks ↔ (f k).isSome = true) : ∃ es c, w.heap[m]? = some (.map es c) ∧ es.size = ks.length := by
  obtain ⟨es, c, l, h1, h2, h3, h4, _⟩ := h
  refine ⟨es, c, h1, ?_⟩
  have e1 : es.size = l.length := by
    have := congrArg List.length h2
    simpa using this
  have := nodup_same_len h3 hn fun x => by rw [vval_mem_fst, h4, hk]
  simp only [List.length_map] at this
  omega
theorem cMap_some (es : List Ec) (k : Int) : k ∈ (pl es).map Ch.tsn ↔ (cMap es k).isSome = true := by
  rw [← look_isSome, ← cMap_look]
  unfold cMap
  cases es.find? fun e => e.x.tsn == k <;> rfl
theorem fMap_some (F : List Int) (k : Int) : k ∈ F ↔ (fMap F k).isSome = true := by
  unfold fMap
  by_cases h : k ∈ F
  · simp [h]
  · simp [h]
theorem c26 (h : RT w tb mc mf es F) (hn : ((pl es).map Ch.tsn).Nodup) (hF : F.Nodup) (hb : es.length + F.length ≤ 4294967296) : Calls Try.prog 26 #[.pointer (some ⟨tb, 0, none⟩)] w (rt fun v w' => v = .int .i64 ((es.length + F.length : Nat) : Int) ∧ Same w w') := by
  refine F26_ok ?_
  unfold F26
  simp only [rdP_mk, nn_some, add_mk]
  have s1 : Same w w.drew := (Fr.refl w).drew
  unfold drw
  have h1 := h.same s1
  refine h1.ldC0 (h1.ldC1 ?_)
  obtain ⟨e1, c1, g1, l1⟩ := mapv_size h1.map hn (cMap_some es)
  obtain ⟨e2, c2, g2, l2⟩ := mapv_size h1.fix hF (fMap_some F)
  refine ⟨_, _, Sh.run_len_map (P := Try.prog) (ats := #[64]) (t := 3) rfl u64 g1 l1, Pres.refl _, _, _, Sh.run_len_map (P := Try.prog) (ats := #[65]) (t := 3) rfl u65 g2 l2, ?_, s1⟩
  have : ((pl es).map Ch.tsn).length = es.length := by simp [pl]
  rw [this, wrap_i64 (by omega) (by omega)]
  congr 1
theorem c18 (h : Hs W (tabL tb hd d s ++ L) w) : Calls Try.prog 18 #[.pointer (some ⟨tb, 0, none⟩)] w (rt (KR (.int .i64 hd) w)) := by
  refine F18_ok ?_
  unfold F18
  simp only [rdP_mk]
  refine clr (c24t h) ⟨_, rfl, ?_⟩
  simp only [Bool.not_true, br_false, nn_some, add_mk]
  exact h.ldI 0 rfl rfl (KR.mk _ _)
theorem c16 (h : Hs W (tabL tb hd d s ++ L) w) : Calls Try.prog 16 #[.pointer (some ⟨tb, 0, none⟩)] w (rt (KR (.int .i64 (d.ms.length : Int)) w)) := by
  refine F16_ok ?_
  unfold F16
  simp only [rdP_mk]
  refine clr (c24t h) ⟨_, rfl, ?_⟩
  simp only [Bool.not_true, br_false, nn_some, add_mk]
  exact h.ldC 0 rfl rfl (KR.mk _ _)
/-! a row's message -/
def bodyOf (L : List Ch) (t : Int) : List Int := match look L t with | some x => x.b | none => []
def msgOf (x : Ch) (D : List Int) : Ms := ⟨x.r.f3, if x.has 4 then 0 else x.r.f4, x.r.f5, x.has 4, D⟩
def tellS (s : St) (row : List Int) : St :=
  { s with L := s.L.filter fun x => !row.contains x.tsn, F := s.F ++ row,
           M := s.M ++ [msgOf ((look s.L (row.headD 0)).getD ⟨R35.z, []⟩) (row.flatMap (bodyOf s.L))] }
def rem (es : List Ec) (l : List Int) : List Ec := es.filter fun e => !l.contains e.x.tsn
theorem rem_nil (es : List Ec) : rem es [] = es := by unfold rem; simp
theorem rem_snoc (es : List Ec) (l : List Int) (t : Int) : (rem es l).filter (fun e => e.x.tsn != t) = rem es (l ++ [t]) := by
  unfold rem
  rw [List.filter_filter]
  congr 1
  funext e
  simp only [List.contains_eq_mem, List.mem_append, List.mem_singleton]
  by_cases h1 : e.x.tsn = t <;> by_cases h2 : e.x.tsn ∈ l <;> simp [h1, h2]
theorem rem_find {es : List Ec} {l : List Int} {t : Int} (h : t ∉ l) : ((rem es l).find? fun e => e.x.tsn == t) = es.find? fun e => e.x.tsn == t := by
  unfold rem
  rw [List.find?_filter]
  congr 1
  funext e
  by_cases he : e.x.tsn = t
  · simp [he, h]
  · simp [he]
theorem cMap_del (es : List Ec) (t : Int) : updV (cMap es) t none = cMap (es.filter fun e => e.x.tsn != t) := by
  funext k
  unfold updV cMap
  rw [List.find?_filter]
  by_cases hk : k = t
  · subst hk
    rw [if_pos rfl]
    have : (es.find? fun a => (a.x.tsn != k && a.x.tsn == k)) = none := by
      rw [List.find?_eq_none]
      intro e _
      by_cases he : e.x.tsn = k <;> simp [he]
    have h2 : (fun a : Ec => decide ((a.x.tsn != k) = true ∧ (a.x.tsn == k) = true)) = fun a => (a.x.tsn != k && a.x.tsn == k) := by
      funext a
      by_cases he : a.x.tsn = k <;> simp [he]
    rw [h2, this]; rfl
  · rw [if_neg hk]
    congr 2
    funext e
    by_cases he : e.x.tsn = k
    · simp [he, hk]
    · simp [he]
theorem fMap_put (F : List Int) (t : Int) : updV (fMap F) t (some (.bool true)) = fMap (F ++ [t]) := by
  funext k
  unfold updV fMap
  by_cases hk : k = t
  · simp [hk]
  · simp [hk]
/-- some of many like parts are let go -/
theorem big_filter {α : Type} {G : α → HP} {l : List α} (p : α → Bool) (h : Hs W L w) (i : Nat) (hi : L[i]? = some (bigS (l.map G))) : Hs W (L.set i (bigS ((l.filter p).map G))) w := by
  have hlt := (List.getElem?_eq_some_iff.1 hi).1
  have hp : (l.map G).Perm ((l.filter fun x => !p x).map G ++ (l.filter p).map G) := by
    rw [← List.map_append]
    exact ((List.filter_append_perm p l).symm.trans List.perm_append_comm).map G
  have h1 : Hs W (((l.filter fun x => !p x).map G ++ (l.filter p).map G) ++ L.eraseIdx i) w := by
    refine Hs.cons_bigS.1 ?_
    rw [← bigS_perm hp]
    exact h.focus hi
  rw [List.append_assoc] at h1
  exact (Hs.cons_bigS.2 h1.dropL).unfocus hlt
end
end Go.Proofs.Ytaflmpbeonoilaa
namespace Go.Proofs.Ytaflmpbeonoilaa
open Go Go.Sh
section
variable {W w : World} {L M : List HP} {tb mc mf : Nat} {hd : Int} {d : TD} {s : St} {es : List Ec} {F : List Int}
theorem look_body {es : List Ec} {t : Int} {x : Ch} (h : look (pl es) t = some x) : bodyOf (pl es) t = x.b := by unfold bodyOf; rw [h]
/-- the chunks that are told so far are gone, their numbers fixed -/
abbrev tdJ (d : TD) (l : List Int) : TD := { d with es := rem d.es l }
abbrev stJ (s : St) (l : List Int) : St := { s with F := s.F ++ l }
theorem flat_take_snoc {row : List Int} {j : Nat} {t : Int} (g : Int → List Int) (h : row[j]? = some t) : (row.take (j + 1)).flatMap g = (row.take j).flatMap g ++ g t := by
  rw [List.take_add_one, h, List.flatMap_append]
  simp
theorem inV_append (k : IntKind) (a b : List Int) : inV k (a ++ b) = inV k a ++ inV k b := by simp [inV]
theorem c31_1 {b : Nat} {m : Ms} {ra : Option Addr} {rc : Nat} {row : List Int} {Z : List HP} {K0 : Value → Value → World → Prop} (hh : ∀ t ∈ row, ∃ x, look (pl d.es) t = some x) (hnd : row.Nodup) (hrl : row.length ≤ 4294967300) (hlen : (row.flatMap (bodyOf (pl d.es))).length ≤ 140737488355328)
    (_ : ∀ e ∈ d.es, e.x.b.length ≤ 140737488355328)
    (hK : ∀ w' a c, Hs W (pt b (.cells (R38.mk m.st m.ssn m.pr m.un a (row.flatMap (bodyOf (pl d.es))).length c).c 39 (0, 0)) :: slP 5 1 a (row.flatMap (bodyOf (pl d.es))).length c (inV .u8 (row.flatMap (bodyOf (pl d.es)))) :: (tabL tb hd (tdJ d row) (stJ s row) ++ (slP 30 1 ra row.length rc (inV .u32 row) :: Z))) w' → K0 (.pointer (some ⟨tb, 0, none⟩)) (.pointer (some ⟨b, 0, none⟩)) w') :
    ∀ (i j : Nat) (w1 : World) (k : Nat) (a : Option Addr) (c n : Nat) (D : List Int), j + i = row.length → D = (row.take j).flatMap (bodyOf (pl d.es)) → n = D.length → Hs W (pt b (.cells (R38.mk m.st m.ssn m.pr m.un a n c).c 39 (0, 0)) :: slP 5 1 a n c (inV .u8 D) :: (tabL tb hd (tdJ d (row.take j)) (stJ s (row.take j)) ++ (slP 30 1 ra row.length rc (inV .u32 row) :: Z))) w1 → i < k →
      F31_1 K0 k (.pointer (some ⟨tb, 0, none⟩)) (.pointer (some ⟨b, 0, none⟩)) (.slice ra row.length rc) (.int .i64 (row.length : Int)) (.int .i64 (j : Int)) w1 := by
  intro i
  induction i with
  | zero =>
    intro j w1 k a c n D hj hD hn h hk
    obtain ⟨k, rfl⟩ : ∃ j, k = j + 1 := ⟨k - 1, by omega⟩
    show F31_1B _ _ _ _ _ _ _ _
    unfold F31_1B
    simp only [rdP_mk, rdA_mk, rdC_mk, rdI_mk, br_dec]
    refine ⟨fun hlt => by exfalso; omega, fun _ => ?_⟩
    rw [List.take_of_length_le (by omega)] at hD h
    subst hD hn
    exact hK _ _ _ h
  | succ i ih =>
    intro j w1 k a c n D hj hD hn h hk
    obtain ⟨k, rfl⟩ : ∃ j, k = j + 1 := ⟨k - 1, by omega⟩
    show F31_1B _ _ _ _ _ _ _ _
    unfold F31_1B
    simp only [rdP_mk, rdA_mk, rdC_mk, rdI_mk, br_dec]
    refine ⟨fun _ => ?_, fun hlt => by exfalso; omega⟩
    obtain ⟨t, ht⟩ : ∃ t, row[j]? = some t := ⟨row[j]'(by omega), by simp⟩
    have htm := List.mem_of_getElem? ht
    have hrd := h.rd 11 rfl
    obtain ⟨ad, hra⟩ := hrd.some (by rw [inV_length]; omega)
    rw [hra]
    have hrd' : Rd w1 (some ad) (inV .u32 row) := by rw [← hra]; exact hrd
    refine ixS_to rfl (by omega) ?_
    rw [Nat.mul_one]
    refine ldI_c (hrd'.at (inV_at ht)) ?_
    refine h.drw fun w8 h8 => ?_
    simp only [nn_some, add_mk]
    refine h8.ldC 0 rfl rfl (h8.ldM 2 rfl rfl ?_)
    have hrt : RT w8 tb d.mc d.mf (rem d.es (row.take j)) (s.F ++ row.take j) := tab_rt (d := tdJ d (row.take j)) (s := stJ s (row.take j)) h8.drop.drop
    have hnot : t ∉ row.take j := by
      intro hm
      obtain ⟨i', hi'⟩ := List.getElem?_of_mem hm
      rw [List.getElem?_take] at hi'
      split at hi'
      · rename_i hlt
        have := (List.getElem?_inj (i := i') (j := j) (by omega) hnd).1 (by rw [hi', ht])
        omega
      · cases hi'
    obtain ⟨x, hx⟩ := hh t htm
    obtain ⟨s12, hs12, g12⟩ := hrt.look t
    have hlk : look (pl (rem d.es (row.take j))) t = some x := by
      rw [← hx, pl, pl, ← cMap_look, ← cMap_look, rem_find hnot]
    obtain ⟨e, he, hex, hse⟩ := g12 x hlk
    subst hse
    refine exR35_of e.rc ⟨hs12 false, ?_⟩
    obtain ⟨q, hq⟩ := List.getElem?_of_mem (List.mem_of_find?_eq_some he)
    have hown := h8.big_rd 8 rfl hq (e := 5) (z := 1) (a := e.a) (n := e.x.b.length) (c := e.c) (xs := inV .u8 e.x.b) rfl
    have hbe : bodyOf (pl d.es) t = e.x.b := by rw [look_body hx, hex]
    have hfl := flat_take_snoc (bodyOf (pl d.es)) ht
    rw [hbe] at hfl
    have hle : ((row.take (j + 1)).flatMap (bodyOf (pl d.es))).length ≤ (row.flatMap (bodyOf (pl d.es))).length := by
      have : row.flatMap (bodyOf (pl d.es)) = (row.take (j + 1)).flatMap (bodyOf (pl d.es)) ++ (row.drop (j + 1)).flatMap (bodyOf (pl d.es)) := by
        rw [← List.flatMap_append, List.take_append_drop]
      rw [this, List.length_append]; omega
    rw [hfl, List.length_append, ← hD, ← hn] at hle
    refine h8.appendA E22 1 rfl (news := inV .u8 e.x.b) (m := e.x.b.length) (by rw [inV_length]; omega) hown.rd (own_nilc hown) (inV_one _ _) (by omega) (by omega) fun a' c' w14 h14 _ => ?_
    rw [← inV_append] at h14
    refine h14.stc 0 rfl (by simp [R38.c]) fun w15 h15 => ?_
    refine h15.ldM 2 rfl rfl ?_
    obtain ⟨o18, hr18, hm18⟩ := delete_val (P := Try.prog) (ats := #[64, 30]) (ty := 0) rfl u64 u30 (k := t) (h15.mapv 3 rfl)
    refine ⟨_, hr18, ?_⟩
    have h18 := h15.mapv_turn (i := 3) rfl ((Fr.refl w15).sb (fun _ => rfl)) hm18
    rw [cMap_del, rem_snoc] at h18
    have h19 := big_filter (fun e : Ec => e.x.tsn != t) h18 8 rfl
    rw [rem_snoc] at h19
    refine h19.ldM 2 rfl rfl ?_
    obtain ⟨o21, hr21, hm21⟩ := store_val (P := Try.prog) (T := 65) u65 u30 (k := t) (v := .bool true) (h19.mapv 4 rfl)
    refine ⟨_, hr21, ?_⟩
    have h21 := h19.mapv_turn (i := 4) rfl ((Fr.refl _).sb (fun _ => rfl)) hm21
    rw [fMap_put] at h21
    have e1 : IntKind.wrap .i64 ((j : Int) + 1) = ((j + 1 : Nat) : Int) := by rw [wrap_i64 (by omega) (by omega)]; omega
    have etk : row.take (j + 1) = row.take j ++ [t] := by rw [List.take_add_one, ht]; rfl
    rw [e1, ← hra]
    refine ih (j + 1) _ k a' c' (n + e.x.b.length) (D ++ e.x.b) (by omega) (by rw [hfl, hD]) (by rw [List.length_append, hn]) ?_ (by omega)
    rw [etk]
    show Hs W (_ :: _ :: (tabL tb hd (tdJ d (row.take j ++ [t])) { s with F := s.F ++ (row.take j ++ [t]) } ++ _)) _
    rw [← List.append_assoc s.F]
    exact h21
theorem msV_snoc (ms : List Em) (e : Em) : msV (ms ++ [e]) = msV ms ++ e.rc.l := by simp [msV]
theorem R38_one (x : R38) : ∀ u ∈ x.c.toList, u.oneCell' = true := by
  intro u hu
  rw [R38.c_list] at hu
  unfold R38.l at hu
  simp only [List.mem_cons, List.not_mem_nil, or_false] at hu
  rcases hu with rfl | rfl | rfl | rfl | rfl <;> rfl
theorem c31_2 {b : Nat} {m : Ms} {ra : Option Addr} {rc : Nat} {row : List Int} {Z : List HP} {Kn : World → Prop} (hh : ∀ t ∈ row, ∃ x, look (pl d.es) t = some x) (hnd : row.Nodup) (hrl : row.length ≤ 4294967300) (hlen : (row.flatMap (bodyOf (pl d.es))).length ≤ 140737488355328)
    (hb1 : ∀ e ∈ d.es, e.x.b.length ≤ 140737488355328) (hms : d.ms.length ≤ 2000000000) (hD : m.d = row.flatMap (bodyOf (pl d.es)))
    (h : Hs W (pt b (.cells (R38.mk m.st m.ssn m.pr m.un none 0 0).c 39 (0, 0)) :: (tabL tb hd d s ++ (slP 30 1 ra row.length rc (inV .u32 row) :: Z))) w)
    (hK : ∀ w' a c ra' rc', Hs W (tabL tb hd { d with es := rem d.es row, ms := d.ms ++ [⟨a, c, m⟩], ra := ra', rc := rc' } (stJ s row) ++ (slP 30 1 ra row.length rc (inV .u32 row) :: Z)) w' → Kn w') :
    F31_2 Kn (.pointer (some ⟨tb, 0, none⟩)) (.slice ra row.length rc) (.pointer (some ⟨b, 0, none⟩)) w := by
  unfold F31_2
  simp only [rdP_mk, rdA_mk, rdC_mk]
  have h1 := (h.nil 5 1).perm (List.Perm.swap _ _ _)
  refine ⟨row.length + 1, c31_1 (W := W) (hd := hd) (s := s) (Z := Z) (m := m) hh hnd hrl hlen hb1 (fun w5 a c h5 _g => ?_) row.length 0 w _ none 0 0 [] (by omega) rfl rfl ?_ (by omega)⟩
  · simp only [rdP_mk, rdA_mk, nn_some, add_mk]
    refine h5.drw fun w9 h9 => ?_
    refine h9.ldC 2 rfl rfl ?_
    rw [← hD] at h9
    refine ldR38_of (s := m.rc a c) (h9.atL 0 rfl) ?_
    have hs : Same w9 (w9.alloc (.cells (m.rc a c).c 39)) := (Fr.refl w9).alloc _
    refine ⟨Pres.alloc _ _, ?_⟩
    have hpush := h9.pushO (ty := 49) E49 7 rfl (news := (m.rc a c).c) rfl (R38_one _) (by show d.ms.length + 1 ≤ _; omega) (by show (d.ms.length + 1) * 40 ≤ _; omega) hs (alloc_new w9 _) (K := fun a1 l1 c1 w16 => stc (Addr.mk tb 6 none) (.slice a1 l1 c1) w16 Kn) ?_
    · exact hpush
    · intro ra' rc' w16 h16
      refine h16.stc 2 rfl (by simp [tabC, R69.c]) fun w18 h18 => ?_
      have h19 : Hs W (datP ⟨a, c, m⟩ :: (_ :: _)) w18 := h18.drop
      have h20 := h19.big_in 8 (l := d.ms) rfl
      refine hK w18 a c ra' rc' ?_
      have el : (d.ms ++ [(⟨a, c, m⟩ : Em)]).length = d.ms.length + 1 := by simp
      unfold tabL
      simp only [tabC]
      rw [el, msV_snoc]
      exact h20
  · rw [List.take_zero]
    have e1 : tdJ d [] = d := by show { d with es := rem d.es [] } = d; rw [rem_nil]
    have e2 : stJ s [] = s := by show { s with F := s.F ++ [] } = s; rw [List.append_nil]
    rw [e1, e2]
    exact h1
theorem alcP {o : Obj} {K : Nat → World → Prop} (h : Hs W L w) (hk : ∀ b w', Pres w w' → Hs W (pt b o :: L) w' → K b w') : alc o w K := hk _ _ (Pres.alloc _ _) (h.alloc o)
theorem c31 {ra : Option Addr} {rc : Nat} {row : List Int} {Z : List HP} (hi : Is d s) (hh : ∀ t ∈ row, ∃ x, look (pl d.es) t = some x) (hne : row ≠ []) (hnd : row.Nodup) (hrl : row.length ≤ 4294967300) (hlen : (row.flatMap (bodyOf (pl d.es))).length ≤ 140737488355328)
    (hb1 : ∀ e ∈ d.es, e.x.b.length ≤ 140737488355328) (hms : d.ms.length ≤ 2000000000)
    (h : Hs W (tabL tb hd d s ++ (slP 30 1 ra row.length rc (inV .u32 row) :: Z)) w) :
    Calls Try.prog 31 #[.pointer (some ⟨tb, 0, none⟩), .slice ra row.length rc] w (rt fun v w' => v = .tuple #[] ∧ ∃ d', Is d' (tellS s row) ∧ Hs W (tabL tb hd d' (tellS s row) ++ (slP 30 1 ra row.length rc (inV .u32 row) :: Z)) w') := by
  obtain ⟨f, r, hfr⟩ : ∃ f r, row = f :: r := by
    cases row with
    | nil => exact absurd rfl hne
    | cons f r => exact ⟨f, r, rfl⟩
  have h0 : row[0]? = some f := by rw [hfr]; rfl
  obtain ⟨x, hx⟩ := hh f (by rw [hfr]; simp)
  refine F31_ok ?_
  unfold F31
  simp only [rdP_mk, rdC_mk, nn_some, add_mk]
  refine h.drw fun w3 h3 => ?_
  refine h3.ldM 0 rfl rfl ?_
  have hrd := h3.rd 9 rfl
  obtain ⟨ad, hra⟩ := hrd.some (by rw [inV_length, hfr]; simp)
  have hrd' : Rd w3 (some ad) (inV .u32 row) := by rw [← hra]; exact hrd
  have hl1 : 0 < row.length := by rw [hfr]; simp
  have eix : ∀ {K : Addr → Prop}, K (ad.add (0 * 1)) → ixS 1 ra row.length 0 K := by
    intro K hk
    rw [hra]
    exact ixS_to (p := 0) rfl hl1 hk
  refine eix ?_
  rw [Nat.zero_mul]
  refine ldI_c (hrd'.at (inV_at h0)) ?_
  have hrt := tab_rt h3
  obtain ⟨s8, hs8, g8⟩ := hrt.look f
  obtain ⟨e, he, hex, hse⟩ := g8 x hx
  subst hse
  refine exR35_of e.rc ⟨hs8 false, ?_⟩
  refine alcP h3 fun b9 w10 p10 h10 => ⟨p10, ?_⟩
  refine h10.stcL 0 rfl rfl fun w11 h11 => ?_
  refine h11.drw fun w12 h12 => ?_
  refine ⟨w12, Pres.refl _, ?_⟩
  refine h12.ldI 0 rfl rfl (h12.ldI 0 rfl rfl (h12.ldI 0 rfl rfl ?_))
  refine ldR35_of (s := e.rc) (h12.atL 0 rfl) ?_
  have h12 : Hs W (pt b9 (.cells e.rc.c 36 (0, 0)) :: (tabL tb hd d s ++ (slP 30 1 ra row.length rc (inV .u32 row) :: Z))) w12 := h12
  have hr4 : hr e.rc 4 = x.has 4 := by rw [← hex]; rfl
  have hD : (msgOf x (row.flatMap (bodyOf (pl d.es)))).d = row.flatMap (bodyOf (pl d.es)) := rfl
  have hlook : (look s.L (row.headD 0)).getD ⟨R35.z, []⟩ = x := by
    rw [← hi.L, hfr]
    show (look (pl d.es) f).getD _ = x
    rw [hx]; rfl
  have fin : ∀ {b : Nat} {w5 : World} {Kn : World → Prop}, (∀ w', (∃ d', Is d' (tellS s row) ∧ Hs W (tabL tb hd d' (tellS s row) ++ (slP 30 1 ra row.length rc (inV .u32 row) :: Z)) w') → Kn w') → Hs W (pt b (.cells (R38.mk e.rc.f3 e.rc.f4 e.rc.f5 (hr e.rc 4) none 0 0).c 39 (0, 0)) :: (tabL tb hd d s ++ (slP 30 1 ra row.length rc (inV .u32 row) :: Z))) w5 →
      F31_3 Kn (.pointer (some ⟨tb, 0, none⟩)) (.slice ra row.length rc) (.pointer (some ⟨b, 0, none⟩)) w5 := by
    intro b w5 Kn hK h5
    have f3 : e.rc.f3 = x.r.f3 := by rw [← hex]; rfl
    have f4 : e.rc.f4 = x.r.f4 := by rw [← hex]; rfl
    have f5 : e.rc.f5 = x.r.f5 := by rw [← hex]; rfl
    rw [f3, f4, f5, hr4] at h5
    unfold F31_3
    simp only [rdP_mk, rdA_mk, rdC_mk, add_mk]
    refine h5.ldB 0 rfl rfl ?_
    have last : ∀ {w6 : World}, Hs W (pt b (.cells (R38.mk (msgOf x (row.flatMap (bodyOf (pl d.es)))).st (msgOf x (row.flatMap (bodyOf (pl d.es)))).ssn (msgOf x (row.flatMap (bodyOf (pl d.es)))).pr (msgOf x (row.flatMap (bodyOf (pl d.es)))).un none 0 0).c 39 (0, 0)) :: (tabL tb hd d s ++ (slP 30 1 ra row.length rc (inV .u32 row) :: Z))) w6 →
        F31_2 (fun w10 => ∀ _g : Tm, Kn w10) (.pointer (some ⟨tb, 0, none⟩)) (.slice ra row.length rc) (.pointer (some ⟨b, 0, none⟩)) w6 := by
      intro w6 h6
      refine c31_2 hh hnd hrl hlen hb1 hms hD h6 fun w' a c ra' rc' h' _g => hK w' ⟨{ d with es := rem d.es row, ms := d.ms ++ [⟨a, c, msgOf x (row.flatMap (bodyOf (pl d.es)))⟩], ra := ra', rc := rc' }, ⟨?_, hi.wh, ?_⟩, h'⟩
      · show (rem d.es row).map Ec.x = s.L.filter _
        rw [← hi.L, List.filter_map]
        rfl
      · show (d.ms ++ [_]).map Em.m = s.M ++ [_]
        rw [List.map_append, hi.M, hlook, ← hi.L]
        rfl
    cases hu : x.has 4 with
    | true =>
      rw [br_true]
      refine h5.stc 0 rfl (by simp [R38.c]) fun w6 h6 => last ?_
      have em : msgOf x (row.flatMap (bodyOf (pl d.es))) = ⟨x.r.f3, 0, x.r.f5, true, row.flatMap (bodyOf (pl d.es))⟩ := by unfold msgOf; rw [hu]; rfl
      rw [em]
      rw [hu] at h6
      exact h6
    | false =>
      rw [br_false]
      refine last ?_
      have em : msgOf x (row.flatMap (bodyOf (pl d.es))) = ⟨x.r.f3, x.r.f4, x.r.f5, false, row.flatMap (bodyOf (pl d.es))⟩ := by unfold msgOf; rw [hu]; rfl
      rw [em]
      rw [hu] at h5
      exact h5
  constructor
  · refine cl (c30 e.rc 4 w12) ?_
    rintro _ w18 ⟨rfl, s18⟩
    have p18 := Pres.of_Same s18
    refine ⟨_, rfl, p18, ?_⟩
    refine alcP (h12.same s18) fun b21 w22 p22 h22 => ⟨p18.trans p22, ?_⟩
    refine h22.stcL 0 rfl rfl fun w23 h23 => ?_
    refine fin (fun w' hw _g => ⟨by first | rfl | trivial, hw⟩) ?_
    have h23 : Hs W (pt b21 (.cells (R38.mk e.rc.f3 e.rc.f4 e.rc.f5 (hr e.rc 4) none 0 0).c 39 (0, 0)) :: pt b9 (.cells e.rc.c 36 (0, 0)) :: (tabL tb hd d s ++ (slP 30 1 ra row.length rc (inV .u32 row) :: Z))) w23 := h23
    exact (h23.perm (List.Perm.swap _ _ _)).drop
  · refine alcP h12 fun b27 w28 p28 h28 => ⟨p28, ?_⟩
    refine cl (c30 e.rc 4 w28) ?_
    rintro _ w29 ⟨rfl, s29⟩
    refine ⟨_, rfl, p28.trans (Pres.of_Same s29), ?_⟩
    refine (h28.same s29).stcL 0 rfl rfl fun w32 h32 => ?_
    refine fin (fun w' hw _g => ⟨by first | rfl | trivial, hw⟩) ?_
    have h32 : Hs W (pt b27 (.cells (R38.mk e.rc.f3 e.rc.f4 e.rc.f5 (hr e.rc 4) none 0 0).c 39 (0, 0)) :: pt b9 (.cells e.rc.c 36 (0, 0)) :: (tabL tb hd d s ++ (slP 30 1 ra row.length rc (inV .u32 row) :: Z))) w32 := h32
    exact (h32.perm (List.Perm.swap _ _ _)).drop
end
end Go.Proofs.Ytaflmpbeonoilaa
