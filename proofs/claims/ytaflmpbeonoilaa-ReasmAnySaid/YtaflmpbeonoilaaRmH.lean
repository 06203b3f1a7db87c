/-
  A row's message: the walk.
-/
import Derived.Test.YtaflmpbeonoilaaRmE
namespace Go.Proofs.Ytaflmpbeonoilaa
open Go Go.Sh
section
variable {W w : World} {L M : List HP} {tb mc mf : Nat} {hd : Int} {d : TD} {s : St} {es : List Ec} {F : List Int}
theorem look_body {es : List Ec} {t : Int} {x : Ch} (h : look (pl es) t = some x) : bodyOf (pl es) t = x.b := by unfold bodyOf; rw [h]
/-- the chunks that are told so far are gone, their numbers fixed -/
abbrev tdJ (d : TD) (l : List Int) : TD := { d with es := rem d.es l }
abbrev stJ (s : St) (l : List Int) : St := { s with F := s.F ++ l }
theorem flat_take_snoc {row : List Int} {j : Nat} {t : Int} (g : Int → List Int) (h : row[j]? = some t) : (row.take (j + 1)).flatMap g = (row.take j).flatMap g ++ g t := by
  rw [List.take_add_one, h, List.flatMap_append]
  simp
theorem inV_append (k : IntKind) (a b : List Int) : inV k (a ++ b) = inV k a ++ inV k b := by simp [inV]
theorem c31_1 {b : Nat} {m : Ms} {ra : Option Addr} {rc : Nat} {row : List Int} {Z : List HP} {K0 : Value → Value → World → Prop} (hh : ∀ t ∈ row, ∃ x, look (pl d.es) t = some x) (hnd : row.Nodup) (hrl : row.length ≤ 4294967300) (hlen : (row.flatMap (bodyOf (pl d.es))).length ≤ 140737488355328)
    (_ : ∀ e ∈ d.es, e.x.b.length ≤ 140737488355328)
    (hK : ∀ w' a c, Hs W (pt b (.cells (R38.mk m.st m.ssn m.pr m.un a (row.flatMap (bodyOf (pl d.es))).length c).c 39 (0, 0)) :: slP 5 1 a (row.flatMap (bodyOf (pl d.es))).length c (inV .u8 (row.flatMap (bodyOf (pl d.es)))) :: (tabL tb hd (tdJ d row) (stJ s row) ++ (slP 30 1 ra row.length rc (inV .u32 row) :: Z))) w' → K0 (.pointer (some ⟨tb, 0, none⟩)) (.pointer (some ⟨b, 0, none⟩)) w') :
    ∀ (i j : Nat) (w1 : World) (k : Nat) (a : Option Addr) (c n : Nat) (D : List Int), j + i = row.length → D = (row.take j).flatMap (bodyOf (pl d.es)) → n = D.length → Hs W (pt b (.cells (R38.mk m.st m.ssn m.pr m.un a n c).c 39 (0, 0)) :: slP 5 1 a n c (inV .u8 D) :: (tabL tb hd (tdJ d (row.take j)) (stJ s (row.take j)) ++ (slP 30 1 ra row.length rc (inV .u32 row) :: Z))) w1 → i < k →
      F31_1 K0 k (.pointer (some ⟨tb, 0, none⟩)) (.pointer (some ⟨b, 0, none⟩)) (.slice ra row.length rc) (.int .i64 (row.length : Int)) (.int .i64 (j : Int)) w1 := by
  intro i
  induction i with
  | zero =>
    intro j w1 k a c n D hj hD hn h hk
    obtain ⟨k, rfl⟩ : ∃ j, k = j + 1 := ⟨k - 1, by omega⟩
    show F31_1B _ _ _ _ _ _ _ _
    unfold F31_1B
    simp only [rdP_mk, rdA_mk, rdC_mk, rdI_mk, br_dec]
    refine ⟨fun hlt => by exfalso; omega, fun _ => ?_⟩
    rw [List.take_of_length_le (by omega)] at hD h
    subst hD hn
    exact hK _ _ _ h
  | succ i ih =>
    intro j w1 k a c n D hj hD hn h hk
    obtain ⟨k, rfl⟩ : ∃ j, k = j + 1 := ⟨k - 1, by omega⟩
    show F31_1B _ _ _ _ _ _ _ _
    unfold F31_1B
    simp only [rdP_mk, rdA_mk, rdC_mk, rdI_mk, br_dec]
    refine ⟨fun _ => ?_, fun hlt => by exfalso; omega⟩
    obtain ⟨t, ht⟩ : ∃ t, row[j]? = some t := ⟨row[j]'(by omega), by simp⟩
    have htm := List.mem_of_getElem? ht
    have hrd := h.rd 11 rfl
    obtain ⟨ad, hra⟩ := hrd.some (by rw [inV_length]; omega)
    rw [hra]
    have hrd' : Rd w1 (some ad) (inV .u32 row) := by rw [← hra]; exact hrd
    refine ixS_to rfl (by omega) ?_
    rw [Nat.mul_one]
    refine ldI_c (hrd'.at (inV_at ht)) ?_
    refine h.drw fun w8 h8 => ?_
    simp only [nn_some, add_mk]
    refine h8.ldC 0 rfl rfl (h8.ldM 2 rfl rfl ?_)
    have hrt : RT w8 tb d.mc d.mf (rem d.es (row.take j)) (s.F ++ row.take j) := tab_rt (d := tdJ d (row.take j)) (s := stJ s (row.take j)) h8.drop.drop
    have hnot : t ∉ row.take j := by
      intro hm
      obtain ⟨i', hi'⟩ := List.getElem?_of_mem hm
      rw [List.getElem?_take] at hi'
      split at hi'
      · rename_i hlt
        have := (List.getElem?_inj (i := i') (j := j) (by omega) hnd).1 (by rw [hi', ht])
        omega
      · cases hi'
    obtain ⟨x, hx⟩ := hh t htm
    obtain ⟨s12, hs12, g12⟩ := hrt.look t
    have hlk : look (pl (rem d.es (row.take j))) t = some x := by
      rw [← hx, pl, pl, ← cMap_look, ← cMap_look, rem_find hnot]
    obtain ⟨e, he, hex, hse⟩ := g12 x hlk
    subst hse
    refine exR35_of e.rc ⟨hs12 false, ?_⟩
    obtain ⟨q, hq⟩ := List.getElem?_of_mem (List.mem_of_find?_eq_some he)
    have hown := h8.big_rd 8 rfl hq (e := 5) (z := 1) (a := e.a) (n := e.x.b.length) (c := e.c) (xs := inV .u8 e.x.b) rfl
    have hbe : bodyOf (pl d.es) t = e.x.b := by rw [look_body hx, hex]
    have hfl := flat_take_snoc (bodyOf (pl d.es)) ht
    rw [hbe] at hfl
    have hle : ((row.take (j + 1)).flatMap (bodyOf (pl d.es))).length ≤ (row.flatMap (bodyOf (pl d.es))).length := by
      have : row.flatMap (bodyOf (pl d.es)) = (row.take (j + 1)).flatMap (bodyOf (pl d.es)) ++ (row.drop (j + 1)).flatMap (bodyOf (pl d.es)) := by
        rw [← List.flatMap_append, List.take_append_drop]
      rw [this, List.length_append]; omega
    rw [hfl, List.length_append, ← hD, ← hn] at hle
    refine h8.appendA E22 1 rfl (news := inV .u8 e.x.b) (m := e.x.b.length) (by rw [inV_length]; omega) hown.rd (own_nilc hown) (inV_one _ _) (by omega) (by omega) fun a' c' w14 h14 _ => ?_
    rw [← inV_append] at h14
    refine h14.stc 0 rfl (by simp [R38.c]) fun w15 h15 => ?_
    refine h15.ldM 2 rfl rfl ?_
    obtain ⟨o18, hr18, hm18⟩ := delete_val (P := Try.prog) (ats := #[64, 30]) (ty := 0) rfl u64 u30 (k := t) (h15.mapv 3 rfl)
    refine ⟨_, hr18, ?_⟩
    have h18 := h15.mapv_turn (i := 3) rfl ((Fr.refl w15).sb (fun _ => rfl)) hm18
    rw [cMap_del, rem_snoc] at h18
    have h19 := big_filter (fun e : Ec => e.x.tsn != t) h18 8 rfl
    rw [rem_snoc] at h19
    refine h19.ldM 2 rfl rfl ?_
    obtain ⟨o21, hr21, hm21⟩ := store_val (P := Try.prog) (T := 65) u65 u30 (k := t) (v := .bool true) (h19.mapv 4 rfl)
    refine ⟨_, hr21, ?_⟩
    have h21 := h19.mapv_turn (i := 4) rfl ((Fr.refl _).sb (fun _ => rfl)) hm21
    rw [fMap_put] at h21
    have e1 : IntKind.wrap .i64 ((j : Int) + 1) = ((j + 1 : Nat) : Int) := by rw [wrap_i64 (by omega) (by omega)]; omega
    have etk : row.take (j + 1) = row.take j ++ [t] := by rw [List.take_add_one, ht]; rfl
    rw [e1, ← hra]
    refine ih (j + 1) _ k a' c' (n + e.x.b.length) (D ++ e.x.b) (by omega) (by rw [hfl, hD]) (by rw [List.length_append, hn]) ?_ (by omega)
    rw [etk]
    show Hs W (_ :: _ :: (tabL tb hd (tdJ d (row.take j ++ [t])) { s with F := s.F ++ (row.take j ++ [t]) } ++ _)) _
    rw [← List.append_assoc s.F]
    exact h21
theorem msV_snoc (ms : List Em) (e : Em) : msV (ms ++ [e]) = msV ms ++ e.rc.l := by simp [msV]
theorem R38_one (x : R38) : ∀ u ∈ x.c.toList, u.oneCell' = true := by
  intro u hu
  rw [R38.c_list] at hu
  unfold R38.l at hu
  simp only [List.mem_cons, List.not_mem_nil, or_false] at hu
  rcases hu with rfl | rfl | rfl | rfl | rfl <;> rfl
theorem c31_2 {b : Nat} {m : Ms} {ra : Option Addr} {rc : Nat} {row : List Int} {Z : List HP} {Kn : World → Prop} (hh : ∀ t ∈ row, ∃ x, look (pl d.es) t = some x) (hnd : row.Nodup) (hrl : row.length ≤ 4294967300) (hlen : (row.flatMap (bodyOf (pl d.es))).length ≤ 140737488355328)
    (hb1 : ∀ e ∈ d.es, e.x.b.length ≤ 140737488355328) (hms : d.ms.length ≤ 2000000000) (hD : m.d = row.flatMap (bodyOf (pl d.es)))
    (h : Hs W (pt b (.cells (R38.mk m.st m.ssn m.pr m.un none 0 0).c 39 (0, 0)) :: (tabL tb hd d s ++ (slP 30 1 ra row.length rc (inV .u32 row) :: Z))) w)
    (hK : ∀ w' a c ra' rc', Hs W (tabL tb hd { d with es := rem d.es row, ms := d.ms ++ [⟨a, c, m⟩], ra := ra', rc := rc' } (stJ s row) ++ (slP 30 1 ra row.length rc (inV .u32 row) :: Z)) w' → Kn w') :
    F31_2 Kn (.pointer (some ⟨tb, 0, none⟩)) (.slice ra row.length rc) (.pointer (some ⟨b, 0, none⟩)) w := by
  unfold F31_2
  simp only [rdP_mk, rdA_mk, rdC_mk]
  have h1 := (h.nil 5 1).perm (List.Perm.swap _ _ _)
  refine ⟨row.length + 1, c31_1 (W := W) (hd := hd) (s := s) (Z := Z) (m := m) hh hnd hrl hlen hb1 (fun w5 a c h5 _g => ?_) row.length 0 w _ none 0 0 [] (by omega) rfl rfl ?_ (by omega)⟩
  · simp only [rdP_mk, rdA_mk, nn_some, add_mk]
    refine h5.drw fun w9 h9 => ?_
    refine h9.ldC 2 rfl rfl ?_
    rw [← hD] at h9
    refine ldR38_of (s := m.rc a c) (h9.atL 0 rfl) ?_
    have hs : Same w9 (w9.alloc (.cells (m.rc a c).c 39)) := (Fr.refl w9).alloc _
    refine ⟨Pres.alloc _ _, ?_⟩
    have hpush := h9.pushO (ty := 49) E49 7 rfl (news := (m.rc a c).c) rfl (R38_one _) (by show d.ms.length + 1 ≤ _; omega) (by show (d.ms.length + 1) * 40 ≤ _; omega) hs (alloc_new w9 _) (K := fun a1 l1 c1 w16 => stc (Addr.mk tb 6 none) (.slice a1 l1 c1) w16 Kn) ?_
    · exact hpush
    · intro ra' rc' w16 h16
      refine h16.stc 2 rfl (by simp [tabC, R69.c]) fun w18 h18 => ?_
      have h19 : Hs W (datP ⟨a, c, m⟩ :: (_ :: _)) w18 := h18.drop
      have h20 := h19.big_in 8 (l := d.ms) rfl
      refine hK w18 a c ra' rc' ?_
      have el : (d.ms ++ [(⟨a, c, m⟩ : Em)]).length = d.ms.length + 1 := by simp
      unfold tabL
      simp only [tabC]
      rw [el, msV_snoc]
      exact h20
  · rw [List.take_zero]
    have e1 : tdJ d [] = d := by show { d with es := rem d.es [] } = d; rw [rem_nil]
    have e2 : stJ s [] = s := by show { s with F := s.F ++ [] } = s; rw [List.append_nil]
    rw [e1, e2]
    exact h1
theorem alcP {o : Obj} {K : Nat → World → Prop} (h : Hs W L w) (hk : ∀ b w', Pres w w' → Hs W (pt b o :: L) w' → K b w') : alc o w K := hk _ _ (Pres.alloc _ _) (h.alloc o)
theorem c31 {ra : Option Addr} {rc : Nat} {row : List Int} {Z : List HP} (hi : Is d s) (hh : ∀ t ∈ row, ∃ x, look (pl d.es) t = some x) (hne : row ≠ []) (hnd : row.Nodup) (hrl : row.length ≤ 4294967300) (hlen : (row.flatMap (bodyOf (pl d.es))).length ≤ 140737488355328)
    (hb1 : ∀ e ∈ d.es, e.x.b.length ≤ 140737488355328) (hms : d.ms.length ≤ 2000000000)
    (h : Hs W (tabL tb hd d s ++ (slP 30 1 ra row.length rc (inV .u32 row) :: Z)) w) :
    Calls Try.prog 31 #[.pointer (some ⟨tb, 0, none⟩), .slice ra row.length rc] w (rt fun v w' => v = .tuple #[] ∧ ∃ d', Is d' (tellS s row) ∧ Hs W (tabL tb hd d' (tellS s row) ++ (slP 30 1 ra row.length rc (inV .u32 row) :: Z)) w') := by
  obtain ⟨f, r, hfr⟩ : ∃ f r, row = f :: r := by
    cases row with
    | nil => exact absurd rfl hne
    | cons f r => exact ⟨f, r, rfl⟩
  have h0 : row[0]? = some f := by rw [hfr]; rfl
  obtain ⟨x, hx⟩ := hh f (by rw [hfr]; simp)
  refine F31_ok ?_
  unfold F31
  simp only [rdP_mk, rdC_mk, nn_some, add_mk]
  refine h.drw fun w3 h3 => ?_
  refine h3.ldM 0 rfl rfl ?_
  have hrd := h3.rd 9 rfl
  obtain ⟨ad, hra⟩ := hrd.some (by rw [inV_length, hfr]; simp)
  have hrd' : Rd w3 (some ad) (inV .u32 row) := by rw [← hra]; exact hrd
  have hl1 : 0 < row.length := by rw [hfr]; simp
  have eix : ∀ {K : Addr → Prop}, K (ad.add (0 * 1)) → ixS 1 ra row.length 0 K := by
    intro K hk
    rw [hra]
    exact ixS_to (p := 0) rfl hl1 hk
  refine eix ?_
  rw [Nat.zero_mul]
  refine ldI_c (hrd'.at (inV_at h0)) ?_
  have hrt := tab_rt h3
  obtain ⟨s8, hs8, g8⟩ := hrt.look f
  obtain ⟨e, he, hex, hse⟩ := g8 x hx
  subst hse
  refine exR35_of e.rc ⟨hs8 false, ?_⟩
  refine alcP h3 fun b9 w10 p10 h10 => ⟨p10, ?_⟩
  refine h10.stcL 0 rfl rfl fun w11 h11 => ?_
  refine h11.drw fun w12 h12 => ?_
  refine ⟨w12, Pres.refl _, ?_⟩
  refine h12.ldI 0 rfl rfl (h12.ldI 0 rfl rfl (h12.ldI 0 rfl rfl ?_))
  refine ldR35_of (s := e.rc) (h12.atL 0 rfl) ?_
  have h12 : Hs W (pt b9 (.cells e.rc.c 36 (0, 0)) :: (tabL tb hd d s ++ (slP 30 1 ra row.length rc (inV .u32 row) :: Z))) w12 := h12
  have hr4 : hr e.rc 4 = x.has 4 := by rw [← hex]; rfl
  have hD : (msgOf x (row.flatMap (bodyOf (pl d.es)))).d = row.flatMap (bodyOf (pl d.es)) := rfl
  have hlook : (look s.L (row.headD 0)).getD ⟨R35.z, []⟩ = x := by
    rw [← hi.L, hfr]
    show (look (pl d.es) f).getD _ = x
    rw [hx]; rfl
  have fin : ∀ {b : Nat} {w5 : World} {Kn : World → Prop}, (∀ w', (∃ d', Is d' (tellS s row) ∧ Hs W (tabL tb hd d' (tellS s row) ++ (slP 30 1 ra row.length rc (inV .u32 row) :: Z)) w') → Kn w') → Hs W (pt b (.cells (R38.mk e.rc.f3 e.rc.f4 e.rc.f5 (hr e.rc 4) none 0 0).c 39 (0, 0)) :: (tabL tb hd d s ++ (slP 30 1 ra row.length rc (inV .u32 row) :: Z))) w5 →
      F31_3 Kn (.pointer (some ⟨tb, 0, none⟩)) (.slice ra row.length rc) (.pointer (some ⟨b, 0, none⟩)) w5 := by
    intro b w5 Kn hK h5
    have f3 : e.rc.f3 = x.r.f3 := by rw [← hex]; rfl
    have f4 : e.rc.f4 = x.r.f4 := by rw [← hex]; rfl
    have f5 : e.rc.f5 = x.r.f5 := by rw [← hex]; rfl
    rw [f3, f4, f5, hr4] at h5
    unfold F31_3
    simp only [rdP_mk, rdA_mk, rdC_mk, add_mk]
    refine h5.ldB 0 rfl rfl ?_
    have last : ∀ {w6 : World}, Hs W (pt b (.cells (R38.mk (msgOf x (row.flatMap (bodyOf (pl d.es)))).st (msgOf x (row.flatMap (bodyOf (pl d.es)))).ssn (msgOf x (row.flatMap (bodyOf (pl d.es)))).pr (msgOf x (row.flatMap (bodyOf (pl d.es)))).un none 0 0).c 39 (0, 0)) :: (tabL tb hd d s ++ (slP 30 1 ra row.length rc (inV .u32 row) :: Z))) w6 →
        F31_2 (fun w10 => ∀ _g : Tm, Kn w10) (.pointer (some ⟨tb, 0, none⟩)) (.slice ra row.length rc) (.pointer (some ⟨b, 0, none⟩)) w6 := by
      intro w6 h6
      refine c31_2 hh hnd hrl hlen hb1 hms hD h6 fun w' a c ra' rc' h' _g => hK w' ⟨{ d with es := rem d.es row, ms := d.ms ++ [⟨a, c, msgOf x (row.flatMap (bodyOf (pl d.es)))⟩], ra := ra', rc := rc' }, ⟨?_, hi.wh, ?_⟩, h'⟩
      · show (rem d.es row).map Ec.x = s.L.filter _
        rw [← hi.L, List.filter_map]
        rfl
      · show (d.ms ++ [_]).map Em.m = s.M ++ [_]
        rw [List.map_append, hi.M, hlook, ← hi.L]
        rfl
    cases hu : x.has 4 with
    | true =>
      rw [br_true]
      refine h5.stc 0 rfl (by simp [R38.c]) fun w6 h6 => last ?_
      have em : msgOf x (row.flatMap (bodyOf (pl d.es))) = ⟨x.r.f3, 0, x.r.f5, true, row.flatMap (bodyOf (pl d.es))⟩ := by unfold msgOf; rw [hu]; rfl
      rw [em]
      rw [hu] at h6
      exact h6
    | false =>
      rw [br_false]
      refine last ?_
      have em : msgOf x (row.flatMap (bodyOf (pl d.es))) = ⟨x.r.f3, x.r.f4, x.r.f5, false, row.flatMap (bodyOf (pl d.es))⟩ := by unfold msgOf; rw [hu]; rfl
      rw [em]
      rw [hu] at h5
      exact h5
  constructor
  · refine cl (c30 e.rc 4 w12) ?_
    rintro _ w18 ⟨rfl, s18⟩
    have p18 := Pres.of_Same s18
    refine ⟨_, rfl, p18, ?_⟩
    refine alcP (h12.same s18) fun b21 w22 p22 h22 => ⟨p18.trans p22, ?_⟩
    refine h22.stcL 0 rfl rfl fun w23 h23 => ?_
    refine fin (fun w' hw _g => ⟨by first | rfl | trivial, hw⟩) ?_
    have h23 : Hs W (pt b21 (.cells (R38.mk e.rc.f3 e.rc.f4 e.rc.f5 (hr e.rc 4) none 0 0).c 39 (0, 0)) :: pt b9 (.cells e.rc.c 36 (0, 0)) :: (tabL tb hd d s ++ (slP 30 1 ra row.length rc (inV .u32 row) :: Z))) w23 := h23
    exact (h23.perm (List.Perm.swap _ _ _)).drop
  · refine alcP h12 fun b27 w28 p28 h28 => ⟨p28, ?_⟩
    refine cl (c30 e.rc 4 w28) ?_
    rintro _ w29 ⟨rfl, s29⟩
    refine ⟨_, rfl, p28.trans (Pres.of_Same s29), ?_⟩
    refine (h28.same s29).stcL 0 rfl rfl fun w32 h32 => ?_
    refine fin (fun w' hw _g => ⟨by first | rfl | trivial, hw⟩) ?_
    have h32 : Hs W (pt b27 (.cells (R38.mk e.rc.f3 e.rc.f4 e.rc.f5 (hr e.rc 4) none 0 0).c 39 (0, 0)) :: pt b9 (.cells e.rc.c 36 (0, 0)) :: (tabL tb hd d s ++ (slP 30 1 ra row.length rc (inV .u32 row) :: Z))) w32 := h32
    exact (h32.perm (List.Perm.swap _ _ _)).drop
end
end Go.Proofs.Ytaflmpbeonoilaa
namespace Go.Proofs.Ytaflmpbeonoilaa
open Go Go.Sh
section
variable {W w : World} {L M : List HP} {tb mc mf : Nat} {hd : Int} {d : TD} {s : St} {es : List Ec} {F : List Int}
def idxV (o : Option Nat) : Int := match o with | some i => (i : Int) | none => -1
theorem c52 {a : Option Addr} {c : Nat} {rs : List Er} {fv : Value} {p : Er → Bool} (hr : Rd w a (rowV rs)) (hl : rs.length ≤ 140737488355328)
    (hp : ∀ e ∈ rs, ∀ w', Same w w' → callV Try.prog fv #[.slice e.a e.l.length e.c] w' (.one (.one .bool)) fun r w2 => r = .bool (p e) ∧ Same w' w2) :
    Calls Try.prog 52 #[.slice a rs.length c, fv] w (rt fun v w' => v = .int .i64 (idxV (rs.findIdx? p)) ∧ Same w w') := by
  refine F52_ok ?_
  unfold F52
  simp only [rdC_mk]
  have loop : ∀ (i j : Nat) (w1 : World) (k : Nat) (K0 : World → Prop) (Kr : Value → World → Prop), j + i = rs.length → (∀ e ∈ rs.take j, p e = false) → Same w w1 → i < k →
      (rs.findIdx? p = none → ∀ w', Same w w' → K0 w') → (∀ j : Nat, rs.findIdx? p = some j → ∀ w', Same w w' → Kr (.int .i64 (j : Int)) w') →
      F52_1 K0 Kr k (.slice a rs.length c) fv (.int .i64 (rs.length : Int)) (.int .i64 (j : Int)) w1 := by
    intro i
    induction i with
    | zero =>
      intro j w1 k K0 Kr hj hf hs hk h0 h1
      obtain ⟨k, rfl⟩ : ∃ j, k = j + 1 := ⟨k - 1, by omega⟩
      show F52_1B _ _ _ _ _ _ _ _
      unfold F52_1B
      simp only [rdC_mk, rdI_mk, br_dec]
      refine ⟨fun hlt => by exfalso; omega, fun _ => h0 ?_ _ hs⟩
      rw [List.take_of_length_le (by omega)] at hf
      exact List.findIdx?_eq_none_iff.2 hf
    | succ i ih =>
      intro j w1 k K0 Kr hj hf hs hk h0 h1
      obtain ⟨k, rfl⟩ : ∃ j, k = j + 1 := ⟨k - 1, by omega⟩
      show F52_1B _ _ _ _ _ _ _ _
      unfold F52_1B
      simp only [rdC_mk, rdI_mk, br_dec]
      refine ⟨fun _ => ?_, fun hlt => by exfalso; omega⟩
      obtain ⟨e, he⟩ : ∃ e, rs[j]? = some e := ⟨rs[j]'(by omega), by simp⟩
      have hr1 := hr.fr hs fun _ _ x => x
      obtain ⟨ad, ha⟩ := hr1.some (by rw [rowV_length]; omega)
      rw [ha] at hr1 ⊢
      refine ixS_to rfl (by omega) ?_
      rw [Nat.mul_one]
      refine ldC_c (hr1.at (rowV_at he)) (callV_mono ?_ (hp e (List.mem_of_getElem? he) w1 hs))
      rintro _ w6 ⟨rfl, s6⟩
      refine ⟨_, rfl, ?_⟩
      have hs6 := hs.trans s6 fun _ _ x => x
      rw [br_iff]
      refine ⟨fun hb => h1 j ?_ _ hs6, fun hb => ?_⟩
      · rw [List.findIdx?_eq_some_iff_getElem]
        refine ⟨by omega, ?_, fun j' hj' => ?_⟩
        · have : rs[j] = e := by
            have := List.getElem?_eq_some_iff.1 he
            exact this.2
          rw [this]; exact hb
        · have := hf rs[j'] (by rw [List.mem_take_iff_getElem]; exact ⟨j', by omega, rfl⟩)
          rw [this]; simp
      · have e1 : IntKind.wrap .i64 ((j : Int) + 1) = ((j + 1 : Nat) : Int) := by rw [wrap_i64 (by omega) (by omega)]; omega
        rw [e1, ← ha]
        refine ih (j + 1) w6 k K0 Kr (by omega) (fun e' he' => ?_) hs6 (by omega) h0 h1
        rw [List.take_add_one, he] at he'
        rcases List.mem_append.1 he' with h | h
        · exact hf e' h
        · simp at h; subst h; exact hb
  refine ⟨rs.length + 1, loop rs.length 0 w _ _ _ (by omega) (by simp) (Fr.refl w) (by omega) (fun hn w' hs _g => ?_) fun j hj w' hs _g => ?_⟩
  · rw [hn]; exact ⟨by first | rfl | trivial, hs⟩
  · simp only [rdI_mk]
    rw [hj]; exact ⟨by first | rfl | trivial, hs⟩
theorem rowV_take (rs : List Er) (n : Nat) : (rowV rs).take n = rowV (rs.take n) := by unfold rowV; rw [List.map_take]
theorem rowV_drop (rs : List Er) (n : Nat) : (rowV rs).drop n = rowV (rs.drop n) := by unfold rowV; rw [List.map_drop]
theorem rowV_append (a b : List Er) : rowV (a ++ b) = rowV a ++ rowV b := by unfold rowV; rw [List.map_append]
theorem c54 {base : Nat} {a : Option Addr} {rs : List Er} {c i : Nat} (h : Own w base 33 1 a rs.length c (rowV rs)) (hi : i < rs.length) (hm : rs.length ≤ 140737488355328) :
    Calls Try.prog 54 #[.slice a rs.length c, .int .i64 (i : Int), .int .i64 ((i + 1 : Nat) : Int)] w (rt fun v w' => v = .slice a (rs.length - 1) c ∧ Own w' base 33 1 a (rs.length - 1) c (rowV (rs.eraseIdx i)) ∧ Fr (inB a) w w') := by
  obtain ⟨ad, rfl⟩ := h.rd.some (by rw [rowV_length]; omega)
  have hle := h.le
  refine F54_ok ?_
  unfold F54
  simp only [rdC_mk, rdI_mk]
  refine slice3 E68 (m := rs.length) (by omega) (by omega) hle ?_
  have e0 : ((i : Int) == ((i + 1 : Nat) : Int)) = false := by rw [beq_eq_false_iff_ne]; omega
  rw [e0, br_false]
  unfold drw
  have f0 : Same w w.drew := (Fr.refl w).drew
  have h0 := h.fr f0 fun _ _ x => x
  refine slS_hi (by omega) (slS_lo (by omega) ?_)
  obtain ⟨b, hb, hrd⟩ := h0.tail (j := i + 1) (by omega)
  rw [hb]
  have hcut := h0.cut (n := i) (by omega)
  rw [Nat.mul_one, rowV_take] at hcut
  rw [Nat.mul_one, rowV_drop] at hrd
  obtain ⟨w1, hr1, o1, f1⟩ := append_room_own (ty := 68) (d := c - (i + 1)) E68 hcut (m := rs.length - (i + 1)) (by rw [rowV_length, List.length_drop, Nat.mul_one]) hrd (rowV_one _) (by omega)
  refine ⟨_, _, _, _, hr1, ?_⟩
  have el : i + (rs.length - (i + 1)) = rs.length - 1 := by omega
  rw [el] at o1 ⊢
  refine slS_lh (by omega) hle ?_
  have hc : (if c = rs.length - 1 then some ad else (some ad).map (·.add ((rs.length - 1) * 1))) = some (ad.add ((rs.length - 1) * 1)) := by rw [if_neg (by omega)]; rfl
  rw [hc]
  have e1 : rs.length - (rs.length - 1) = 1 := by omega
  rw [e1]
  obtain ⟨w2, hr2, o2, f2⟩ := clear_own (ty := 0) (m := 1) (d := c - (rs.length - 1)) E68 (by simp [Value.cells, Value.oneCell']) o1 (by omega)
  refine ⟨w2, hr2, by first | rfl | trivial, ?_, ?_⟩
  · rw [List.eraseIdx_eq_take_drop_succ, rowV_append]
    exact o2
  · exact ((f0.mono (S' := inB (some ad)) fun _ _ x => x.elim).trans f1 fun _ _ x => x).trans f2 fun _ _ x => x
theorem run_b0 (w : World) : Sem.run Try.prog (Instr.buildSlice 22 0 #[]) w = .ok (.slice (some ⟨w.heap.size, 0, none⟩) 0 0) (w.alloc (.cells #[] 5)) := by kernel_rfl
theorem c27 {a : Option Addr} {bs : List Int} {c : Nat} (hr : Rd w a (inV .u8 bs)) (hl : bs.length ≤ 140737488355328) : Calls Try.prog 27 #[.slice a bs.length c] w (rt fun v w' => ∃ a' c', v = .slice a' bs.length c' ∧ Own w' w.heap.size 5 1 a' bs.length c' (inV .u8 bs) ∧ Same w w') := by
  refine F27_ok ?_
  unfold F27
  simp only [rdC_mk]
  cases a with
  | none =>
    have : bs = [] := by
      cases bs with
      | nil => rfl
      | cons x r => obtain ⟨ad, e⟩ := hr.some (by simp [inV]); cases e
    subst this
    simp only [Option.isNone_none, br_true]
    exact ⟨none, 0, rfl, Own.nil _ _ _ _, Fr.refl w⟩
  | some ad =>
    simp only [Option.isNone_some, br_false]
    refine ⟨_, _, _, _, run_b0 w, ?_⟩
    have f1 : Same w (w.alloc (.cells #[] 5)) := (Fr.refl w).alloc _
    have o1 : Own (w.alloc (.cells #[] 5)) w.heap.size 5 1 (some ⟨w.heap.size, 0, none⟩) 0 0 [] := ⟨rfl, .inr ⟨_, 0, #[], rfl, Nat.le_refl _, alloc_new _ _, Nat.le_refl _, Nat.zero_le _, rfl, rfl⟩⟩
    obtain ⟨a', l', c', w', hrun, rfl, ho, hf, _⟩ := append_own (ty := 22) E22 o1 (b := ad) (m := bs.length) (d := c) (news := inV .u8 bs) (by simp [inV_length]) (hr.fr f1 fun _ _ x => x) (inV_one _ bs) (by omega) (by omega) (by simp)
    refine ⟨_, _, _, _, hrun, a', c', by simp, ?_, ?_⟩
    · simpa using ho
    · exact ((f1.mono (S' := fun k => w.heap.size ≤ k) fun _ _ x => x.elim).trans hf fun i _ x => (o1.base_le x).1).mono fun i hi x => by omega
end
end Go.Proofs.Ytaflmpbeonoilaa
