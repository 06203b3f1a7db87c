/-
  A chunk is put: the walk.
-/
import Derived.Test.YtaflmpbeonoilaaRmQ
namespace Go.Proofs.Ytaflmpbeonoilaa
open Go Go.Sh
/-- what stands behind the tests, as printed within F11 -/
def F11_T (K : Value → World → Prop) (y0_8 y3_8 : Value) (w10 : World) : Prop :=
  ∀ _g11 : Tm, rdP y0_8 fun p12 => rdA y3_8 fun a13 => ldC (a13.add 13) w10 fun l14a l14n l14c => Calls Try.prog 27 #[(.slice l14a l14n l14c)] w10 fun e16 w15 => ∃ l17a l17n l17c, e16 = .returned (.slice l17a l17n l17c) ∧ (stc (a13.add 13) (.slice l17a l17n l17c) w15 fun w18 => drw w18 fun w19 => nn p12 fun a20 => ldM ((a20.add 0).add 0) w19 fun m21 => ldI .u32 (a13.add 2) w19 fun n22 => ldR35 a13 w19 fun s23 => ∃ w24, Sem.run Try.prog (Instr.mapUpdate 64 (.map m21) (.int .u32 n22) s23.v) w19 = .ok () w24 ∧ (drw w24 fun w25 => nn p12 fun a26 => ldI .i64 ((a26.add 0).add 2) w25 fun n27 => ldC (a13.add 13) w25 fun _ l28n _ => nn p12 fun a29 => stc ((a29.add 0).add 2) (.int .i64 (IntKind.wrap .i64 (n27 + (l28n : Int)))) w25 fun w30 => drw w30 fun w31 => nn p12 fun a32 => ldI .u32 (a13.add 2) w31 fun n33 => Calls Try.prog 29 #[(.pointer (some (a32.add 0))), (.int .u32 n33)] w31 fun e35 w34 => ∃ v36, e35 = .returned v36 ∧ (Calls Try.prog 28 #[v36] w34 fun e38 w37 => ∃ l39a l39n l39c, e38 = .returned (.slice l39a l39n l39c) ∧ (drw w37 fun w40 => ∃ w41 : World, Pres w41 w40 ∧ (nn p12 fun a42 => ldM ((a42.add 0).add 0) w41 fun m43 => ixS 1 l39a l39n 0 fun a44 => ldI .u32 a44 w41 fun n45 => exR35 fun s46 => lookF Try.prog 30 36 (.map m43) (.int .u32 n45) false w41 = some s46.v ∧ (nn p12 fun a47 => ldM ((a47.add 0).add 0) w41 fun m48 => ixS 1 l39a l39n (IntKind.wrap .i64 ((l39n : Int) - 1)) fun a49 => ldI .u32 a49 w41 fun n50 => exR35 fun s51 => lookF Try.prog 30 36 (.map m48) (.int .u32 n50) false w41 = some s51.v ∧ (((alc (.cells ((R35.mk 0 0 0 0 0 0 0 0 0 0 none 0 0 none 0 0 none 0 0 none 0 0 none 0 0)).c 36) w40 fun b52 w53 => Pres w41 w53 ∧ (alc (.cells ((R35.mk 0 0 0 0 0 0 0 0 0 0 none 0 0 none 0 0 none 0 0 none 0 0 none 0 0)).c 36) w53 fun b54 w55 => Pres w41 w55 ∧ (stcL (Addr.mk b52 0 none) 0 s46.l w55 fun w56 => Pres w41 w56 ∧ (stcL (Addr.mk b54 0 none) 0 s51.l w56 fun w57 => F11_2 (fun y4_57 w59 => ∀ _g60 : Tm, rdI .i64 y4_57 fun n61 => K (.int .i64 n61) w59) (.pointer p12) (.pointer (some a13)) (.slice l39a l39n l39c) (.pointer (some (Addr.mk b52 0 none))) (.pointer (some (Addr.mk b54 0 none))) w57)))) ∧ (alc (.cells ((R35.mk 0 0 0 0 0 0 0 0 0 0 none 0 0 none 0 0 none 0 0 none 0 0 none 0 0)).c 36) w40 fun b62 w63 => Pres w41 w63 ∧ (alc (.cells ((R35.mk 0 0 0 0 0 0 0 0 0 0 none 0 0 none 0 0 none 0 0 none 0 0 none 0 0)).c 36) w63 fun b64 w65 => Pres w41 w65 ∧ (stcL (Addr.mk b64 0 none) 0 s46.l w65 fun w66 => Pres w41 w66 ∧ (stcL (Addr.mk b62 0 none) 0 s51.l w66 fun w67 => F11_2 (fun y4_67 w69 => ∀ _g70 : Tm, rdI .i64 y4_67 fun n71 => K (.int .i64 n71) w69) (.pointer p12) (.pointer (some a13)) (.slice l39a l39n l39c) (.pointer (some (Addr.mk b64 0 none))) (.pointer (some (Addr.mk b62 0 none))) w67))))))))))))
section
variable {W w : World} {L M Z : List HP} {tb mc mf : Nat} {hd : Int} {d : TD} {s : St} {es : List Ec} {F : List Int} {c : Ch}
def putE2 (s : St) (c : Ch) : Int :=
  if (s.nx.length : Int) ≤ c.r.f3 then 160
  else if (look s.L c.tsn).isSome = true ∨ c.tsn ∈ s.F then 200
  else if s.lim - (tot s : Int) < c.b.length then 161
  else if 32768 ≤ s.L.length + s.F.length then 3 else 0
theorem c11_3 {b3 : Nat} {a3 : Option Addr} {n3 : Nat} {B : Bool} {Kn : Value → Value → World → Prop} {Kr : Value → World → Prop} (hi : Is d s) (hok : OkB s) (hc : CkOk c) (hlim : 0 ≤ s.lim ∧ s.lim ≤ 1073741824) (_ : s.nx.length ≤ 65536)
    (h : Hs W (pt b3 (.cells (c.rc a3 n3).c 36 (0, 0)) :: (tabL tb (tot s) d s ++ Z)) w)
    (h1 : B = true → ∀ w', Hs W (pt b3 (.cells (c.rc a3 n3).c 36 (0, 0)) :: (tabL tb (tot s) d s ++ Z)) w' → Kr (.int .i64 201) w')
    (h2 : B = false → putE2 s c ≠ 0 → ∀ w', Hs W (pt b3 (.cells (c.rc a3 n3).c 36 (0, 0)) :: (tabL tb (tot s) d s ++ Z)) w' → Kr (.int .i64 (putE2 s c)) w')
    (h3 : B = false → putE2 s c = 0 → ∀ w', Hs W (pt b3 (.cells (c.rc a3 n3).c 36 (0, 0)) :: (tabL tb (tot s) d s ++ Z)) w' → Kn (.pointer (some ⟨tb, 0, none⟩)) (.pointer (some ⟨b3, 0, none⟩)) w') :
    F11_3 Kn Kr (.pointer (some ⟨tb, 0, none⟩)) (.pointer (some ⟨b3, 0, none⟩)) (.bool B) w := by
  unfold F11_3
  simp only [rdP_mk, rdA_mk, rdB_mk]
  cases B with
  | true => rw [br_true]; exact h1 rfl w h
  | false =>
  rw [br_false]
  refine h.drw fun w4 h4 => ?_
  simp only [nn_some, add_mk]
  refine h4.ldI 0 rfl rfl (h4.ldC 1 rfl rfl ?_)
  have e1 : IntKind.wrap .i64 c.r.f3 = c.r.f3 := wrap_i64 (by have := hc.s; omega) (by have := hc.s; omega)
  show br (decide (IntKind.wrap .i64 c.r.f3 ≥ (s.nx.length : Int))) _ _
  rw [e1, br_dec]
  have hpe : putE2 s c = putE2 s c := rfl
  conv at hpe => rhs; unfold putE2
  refine ⟨fun hge => ?_, fun hge => ?_⟩
  · rw [if_pos hge] at hpe
    have := h2 rfl (by rw [hpe]; decide) w4 h4
    rw [hpe] at this
    exact this
  rw [if_neg hge] at hpe
  refine h4.drw fun w8 h8 => ?_
  refine h8.ldI 0 rfl rfl ?_
  refine cl (c25 (tab_rt h8.drop) _) ?_
  rintro _ w11 ⟨rfl, s11⟩
  refine ⟨_, rfl, ?_⟩
  have h11 := h8.same s11
  have hbl : pl d.es = s.L := hi.L
  rw [hbl, br_iff]
  refine ⟨fun hb => ?_, fun hb => ?_⟩
  · have hb : (look s.L c.tsn).isSome = true ∨ c.tsn ∈ s.F := by
      rw [Bool.or_eq_true, decide_eq_true_eq] at hb
      exact hb
    rw [if_pos hb] at hpe
    have := h2 rfl (by rw [hpe]; decide) w11 h11
    rw [hpe] at this
    exact this
  have hb : ¬ ((look s.L c.tsn).isSome = true ∨ c.tsn ∈ s.F) := by
    intro hx
    have : ((look s.L c.tsn).isSome || decide (c.tsn ∈ s.F)) = true := by rw [Bool.or_eq_true, decide_eq_true_eq]; exact hx
    rw [show (c.rc a3 n3).f2 = c.tsn from rfl] at hb
    rw [this] at hb; cases hb
  rw [if_neg hb] at hpe
  refine h11.drw fun w14 h14 => ?_
  refine h14.ldC 0 rfl rfl (h14.ldI 1 rfl rfl (h14.ldI 1 rfl rfl ?_))
  have htot := hok.tot
  show br (decide ((c.b.length : Int) > IntKind.wrap .i64 (s.lim - (tot s : Int)))) _ _
  rw [wrap_i64 (by omega) (by omega), br_dec]
  refine ⟨fun hge => ?_, fun hge => ?_⟩
  · rw [if_pos hge] at hpe
    have := h2 rfl (by rw [hpe]; decide) w14 h14
    rw [hpe] at this
    exact this
  rw [if_neg hge] at hpe
  have hle : d.es.length = s.L.length := by rw [← hi.L, List.length_map]
  have hcnt := hok.cnt
  refine cl (c26 (tab_rt h14.drop) (by rw [hbl]; exact hok.key) hok.fix (by omega)) ?_
  rintro _ w21 ⟨rfl, s21⟩
  refine ⟨_, rfl, ?_⟩
  have h21 := h14.same s21
  rw [br_dec, hle]
  refine ⟨fun hge => ?_, fun hge => ?_⟩
  · rw [if_pos (by omega)] at hpe
    have := h2 rfl (by rw [hpe]; decide) w21 h21
    rw [hpe] at this
    exact this
  rw [if_neg (by omega)] at hpe
  exact h3 rfl hpe w21 h21
theorem whole_one : ∀ u ∈ (#[Value.slice (none : Option Addr) 0 0] : Array Value).toList, u.oneCell' = true := by simp [Value.oneCell']
theorem c11_1 {bf bl b3 : Nat} {fr lr : R35} {ra a3 : Option Addr} {rc n3 : Nat} {B : Bool} {Kn : World → Prop} (hi : Is d (put1 s c)) (hok0 : OkB s) (hok : OkB (put1 s c)) (hc : CkOk c) (hnew : c.tsn ∉ keys s.L)
    (hB : B = whC s c) (h4 : hr fr 4 = (fstC s c).has 4)
    (h : Hs W ([slP 30 1 ra (rowC s c).length rc (inV .u32 (rowC s c)), pt bf (.cells fr.c 36 (0, 0)), pt bl (.cells lr.c 36 (0, 0)), pt b3 (.cells (c.rc a3 n3).c 36 (0, 0))] ++ (tabL tb hd d (put1 s c) ++ Z)) w)
    (hK : ∀ w' d', Is d' (putS s c) → Hs W (tabL tb hd d' (putS s c) ++ Z) w' → Kn w') :
    F11_1 Kn (.pointer (some ⟨tb, 0, none⟩)) (.pointer (some ⟨b3, 0, none⟩)) (.slice ra (rowC s c).length rc) (.pointer (some ⟨bf, 0, none⟩)) (.bool B) w := by
  unfold F11_1
  simp only [rdP_mk, rdA_mk, rdB_mk, rdC_mk]
  obtain ⟨g, n, _, _, _, _, h5, h6, h7, h8, _⟩ := rowC_facts hok hc
  have hcnt := hok.cnt
  obtain ⟨f1, f2⟩ := row_few hok.toOkA h8 h6
  have hbl : pl d.es = s.L ++ [c] := hi.L
  cases hw : whC s c with
  | false =>
    rw [hB, hw, br_false]
    have e : putS s c = put1 s c := by unfold putS; rw [if_neg (by rw [hw]; decide)]
    rw [e] at hK
    exact hK w d hi (Hs.dropL h)
  | true =>
    rw [hB, hw, br_true]
    refine ldR35_of (s := fr) (h.atL 1 rfl) ?_
    refine cl (c30 _ _ _) ?_
    rintro _ w7 ⟨rfl, s7⟩
    refine ⟨_, rfl, ?_⟩
    have h7' := h.same s7
    rw [h4]
    cases hu : (fstC s c).has 4 with
    | true =>
      have e : putS s c = tellS (put1 s c) (rowC s c) := by unfold putS; rw [if_pos hw, if_pos hu]
      rw [e] at hK
      rw [br_true]
      have hlk : ∀ t ∈ rowC s c, ∃ x, look (pl d.es) t = some x := fun t ht => by
        rw [hbl]
        exact Option.isSome_iff_exists.1 (look_isSome.2 (h6 t ht))
      have hms : d.ms.length ≤ 2000000000 := by
        have h1 := msgs_few hok.toOkA
        have h2 : d.ms.length = (put1 s c).M.length := by rw [← hi.M, List.length_map]
        omega
      refine cl (c31 hi hlk h7 h8 (by omega) (by rw [hbl]; show ((rowC s c).flatMap (bodyOf (put1 s c).L)).length ≤ _; omega) (fun y hy => ?_) hms (Hs.flip.1 h7')) ?_
      · have := body_few hok.toOkA (x := y.x) (by rw [← hi.L]; exact List.mem_map.2 ⟨y, hy, rfl⟩)
        omega
      · rintro _ w10 ⟨rfl, d', hi', h10⟩
        exact ⟨rfl, hK w10 d' hi' (Hs.dropL ((Hs.flip (X := [slP 30 1 ra (rowC s c).length rc (inV .u32 (rowC s c)), pt bf (.cells fr.c 36 (0, 0)), pt bl (.cells lr.c 36 (0, 0)), pt b3 (.cells (c.rc a3 n3).c 36 (0, 0))])).2 h10))⟩
    | false =>
      have e : putS s c = turnS (s.wh.length + 2) (put2 s c) c.r.f3 := by unfold putS; rw [if_pos hw, if_neg (by rw [hu]; decide)]
      rw [e] at hK
      rw [br_false]
      simp only [nn_some, add_mk]
      refine h7'.ldC 4 rfl rfl ?_
      have hfew := rows_few hok.toOkA
      have hrl : d.rs.length = s.wh.length := by
        have h1 := hi.wh
        have h2 := congrArg List.length h1
        rw [List.length_map] at h2
        exact h2
      have hfew' : s.wh.length ≤ 32768 := hfew
      unfold alc
      refine h7'.push E68 8 rfl (news := #[_]) rfl (by simp [Value.oneCell']) (by omega) (by omega) ?_
      intro wa' wc' w17 h17
      refine h17.stc 4 rfl (by simp [tabC, R69.c]) fun w19 h19 => ?_
      refine h19.ldI 3 rfl rfl ?_
      have h20 : Hs W (rowP ⟨ra, rc, rowC s c⟩ :: ([pt bf (.cells fr.c 36 (0, 0)), pt bl (.cells lr.c 36 (0, 0)), pt b3 (.cells (c.rc a3 n3).c 36 (0, 0))] ++
          ([pt tb (.cells (R69.mk (some d.mc) (some d.mf) hd d.na s.nx.length d.nc s.lim wa' (d.rs.length + 1) wc' d.ra d.ms.length d.rc).c 70 (0, 0)), mapV .u32 d.mc (cMap d.es), mapV .u32 d.mf (fMap s.F), slP 31 1 d.na s.nx.length d.nc (inV .u16 s.nx),
            slP 33 1 wa' (d.rs.length + 1) wc' (rowV d.rs ++ [.slice ra (rowC s c).length rc]), slO 39 5 d.ra d.ms.length d.rc (msV d.ms), bigS (d.es.map bodyP), bigS (d.rs.map rowP), bigS (d.ms.map datP)] ++ Z))) w19 := h19
      have h21 := h20.big_in 10 (l := d.rs) rfl
      have h22 : Hs W ([pt bf (.cells fr.c 36 (0, 0)), pt bl (.cells lr.c 36 (0, 0)), pt b3 (.cells (c.rc a3 n3).c 36 (0, 0))] ++ (tabL tb hd { d with rs := d.rs ++ [⟨ra, rc, rowC s c⟩], wa := wa', wc := wc' } (put2 s c) ++ Z)) w19 := by
        have el : (d.rs ++ [(⟨ra, rc, rowC s c⟩ : Er)]).length = d.rs.length + 1 := by simp
        have ev : rowV (d.rs ++ [⟨ra, rc, rowC s c⟩]) = rowV d.rs ++ [.slice ra (rowC s c).length rc] := by rw [rowV_append]; rfl
        unfold tabL tabC
        simp only
        rw [el, ev]
        exact h21
      obtain ⟨k3, _⟩ := put2_ok hok0 hok hc hnew hw
      have hi2 : Is { d with rs := d.rs ++ [⟨ra, rc, rowC s c⟩], wa := wa', wc := wc' } (put2 s c) := ⟨hi.L, by
        show (d.rs ++ [_]).map Er.l = s.wh ++ [rowC s c]
        rw [List.map_append, hi.wh]; rfl, hi.M⟩
      have hst : 0 ≤ c.r.f3 ∧ c.r.f3 < ((put2 s c).nx.length : Int) := (hok.rng c (by show c ∈ s.L ++ [c]; simp)).2.1
      refine cl (c32 (st := c.r.f3) (n := s.wh.length + 2) hi2 k3.toOkA hst (by show (s.wh ++ [_]).length < _; simp) (Hs.flip.1 h22)) ?_
      rintro _ w21 ⟨rfl, d', hi', h23⟩
      exact ⟨rfl, hK w21 d' hi' (Hs.dropL ((Hs.flip (X := [pt bf (.cells fr.c 36 (0, 0)), pt bl (.cells lr.c 36 (0, 0)), pt b3 (.cells (c.rc a3 n3).c 36 (0, 0))])).2 h23))⟩
theorem c11_2 {bf bl b3 : Nat} {fr lr : R35} {ra a3 : Option Addr} {rc n3 : Nat} {Kr : Value → World → Prop} (hi : Is d (put1 s c)) (hok0 : OkB s) (hok : OkB (put1 s c)) (hc : CkOk c) (hnew : c.tsn ∉ keys s.L)
    (hf : ∀ m, hr fr m = (fstC s c).has m) (hl : ∀ m, hr lr m = (lstC s c).has m)
    (h : Hs W ([slP 30 1 ra (rowC s c).length rc (inV .u32 (rowC s c)), pt bf (.cells fr.c 36 (0, 0)), pt bl (.cells lr.c 36 (0, 0)), pt b3 (.cells (c.rc a3 n3).c 36 (0, 0))] ++ (tabL tb hd d (put1 s c) ++ Z)) w)
    (hK : ∀ w' d', Is d' (putS s c) → Hs W (tabL tb hd d' (putS s c) ++ Z) w' → Kr (.int .i64 0) w') :
    F11_2 Kr (.pointer (some ⟨tb, 0, none⟩)) (.pointer (some ⟨b3, 0, none⟩)) (.slice ra (rowC s c).length rc) (.pointer (some ⟨bf, 0, none⟩)) (.pointer (some ⟨bl, 0, none⟩)) w := by
  unfold F11_2
  simp only [rdP_mk, rdA_mk, rdC_mk]
  refine ldR35_of (s := fr) (h.atL 1 rfl) ?_
  refine cl (c30 _ _ _) ?_
  rintro _ w7 ⟨rfl, s7⟩
  refine ⟨_, rfl, ?_⟩
  have h7 := h.same s7
  rw [hf, br_iff]
  refine ⟨fun hb => ?_, fun hb => ?_⟩
  · refine ldR35_of (s := lr) (h7.atL 2 rfl) ?_
    refine cl (c30 _ _ _) ?_
    rintro _ w11 ⟨rfl, s11⟩
    refine ⟨_, rfl, ?_⟩
    rw [hl]
    exact c11_1 hi hok0 hok hc hnew (by unfold whC; rw [hb, Bool.true_and]) (hf 4) (h7.same s11) fun w' d' hi' h' _g => hK w' d' hi' h'
  · exact c11_1 hi hok0 hok hc hnew (by unfold whC; rw [hb, Bool.false_and]) (hf 4) h7 fun w' d' hi' h' _g => hK w' d' hi' h'
end
end Go.Proofs.Ytaflmpbeonoilaa
