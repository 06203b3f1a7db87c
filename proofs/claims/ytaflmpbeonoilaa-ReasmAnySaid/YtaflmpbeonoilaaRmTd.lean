/-
  Messages, cut: the walk.
-/
import Derived.Test.YtaflmpbeonoilaaRmTc
namespace Go.Proofs.Ytaflmpbeonoilaa
open Go Go.Sh Go.RowKit
noncomputable def E45j : TypeInfo := (Try.prog.info? 36).getD default
theorem E45a : ElemT Try.prog 45 36 15 152 (R35.v R35.z) E45j := ⟨by kernel_rfl, by kernel_rfl, by kernel_rfl, by kernel_rfl, by kernel_rfl, rfl, by decide⟩
def rV (cs : List Ch) : List Value := cs.flatMap fun x => x.r.l
theorem rV_length (cs : List Ch) : (rV cs).length = cs.length * 15 := flat_length (f := fun x : Ch => x.r.l) (m := 15) (fun _ => rfl) _
theorem rV_snoc (cs : List Ch) (x : Ch) : rV (cs ++ [x]) = rV cs ++ x.r.l := by simp [rV]
theorem R35_oneA (x : R35) : ∀ u ∈ x.c.toList, u.oneCell' = true := by
  intro u hu
  simp only [R35.c, List.mem_cons, List.not_mem_nil, or_false] at hu
  rcases hu with rfl | rfl | rfl | rfl | rfl | rfl | rfl | rfl | rfl | rfl | rfl | rfl | rfl | rfl | rfl <;> rfl
section
variable {W w : World} {M Z : List HP} {sz bm : Nat} {e : Em} {t st ssn : Int} {out : List Ch} {oa na ra : Option Addr} {oc nc rc rn : Nat} {nx : List Int}
/-- a message's copy -/
def mrec (e : Em) (st ssn : Int) : R38 := ⟨st, ssn, e.m.pr, e.m.un, e.a, e.m.d.length, e.c⟩
theorem c17_1 {Kn : Value → Value → Value → Value → Value → Value → Value → Value → World → Prop} {b q : Nat} {x : Ch} {at' : Int} (hol : out.length ≤ 100000)
    (hK : ∀ w' a c, Hs W (slP 36 15 a (out ++ [x]).length c (rV (out ++ [x])) :: M) w' → Kn (.slice ra rn rc) (.int .u32 (IntKind.wrap .u32 (t + 1))) (.int .i64 (sz : Int)) (.slice a (out ++ [x]).length c) (.slice na 4 nc) (.int .i64 (q : Int)) (.pointer (some ⟨bm, 0, none⟩)) (.int .i64 at') w')
    (h : Hs W (pt b (.cells x.r.c 36 (0, 0)) :: slP 36 15 oa out.length oc (rV out) :: M) w) :
    F17_1 Kn (.slice ra rn rc) (.int .u32 t) (.int .i64 (sz : Int)) (.slice oa out.length oc) (.slice na 4 nc) (.int .i64 (q : Int)) (.pointer (some ⟨bm, 0, none⟩)) (.int .i64 at') (.pointer (some ⟨b, 0, none⟩)) w := by
  unfold F17_1
  simp only [rdC_mk, rdI_mk, rdA_mk]
  refine ldR35_of (s := x.r) (h.atL 0 rfl) ?_
  unfold alc
  refine h.push (ty := 45) E45a 1 rfl (news := x.r.c) rfl (R35_oneA _) (by omega) (by omega) fun a' c' w2 h2 => ?_
  have h3 : Hs W (slP 36 15 a' (out.length + 1) c' (rV out ++ x.r.l) :: M) w2 := h2.drop
  have el : out.length + 1 = (out ++ [x]).length := by simp
  rw [← rV_snoc, el] at h3
  rw [el]
  exact hK w2 a' c' h3
theorem c17_4 {Kn : Value → Value → Value → Value → Value → Value → Value → Value → World → Prop} {b q j : Nat} {tt : Int} (hol : out.length ≤ 100000) (hs : 1 ≤ sz ∧ sz ≤ 7) (hd : e.m.d.length ≤ 500) (hj : j * sz < e.m.d.length) (htt : tt = (t + (j : Int)) % 4294967296)
    (hK : ∀ w' a c, Hs W (slP 36 15 a (out ++ [mkCh sz e t st ssn j]).length c (rV (out ++ [mkCh sz e t st ssn j])) :: pt bm (.cells (mrec e st ssn).c 39 (0, 0)) :: M) w' → Kn (.slice ra rn rc) (.int .u32 ((t + ((j + 1 : Nat) : Int)) % 4294967296)) (.int .i64 (sz : Int)) (.slice a (out ++ [mkCh sz e t st ssn j]).length c) (.slice na 4 nc) (.int .i64 (q : Int)) (.pointer (some ⟨bm, 0, none⟩)) (.int .i64 ((j * sz : Nat) : Int)) w')
    (h : Hs W (pt b (.cells (R35.mk 0 0 tt st ssn 0 0 0 0 0 none 0 0 none 0 0 none 0 0 (mkCh sz e t st ssn j).r.f13a (mkCh sz e t st ssn j).r.f13n (mkCh sz e t st ssn j).r.f13c none 0 0).c 36 (0, 0)) :: slP 36 15 oa out.length oc (rV out) :: pt bm (.cells (mrec e st ssn).c 39 (0, 0)) :: M) w) :
    F17_4 Kn (.slice ra rn rc) (.int .u32 tt) (.int .i64 (sz : Int)) (.slice oa out.length oc) (.slice na 4 nc) (.int .i64 (q : Int)) (.pointer (some ⟨bm, 0, none⟩)) (.int .i64 ((j * sz : Nat) : Int)) (.pointer (some ⟨b, 0, none⟩)) w := by
  unfold F17_4
  simp only [rdC_mk, rdI_mk, rdA_mk, add_mk]
  refine h.ldI 2 rfl rfl ?_
  refine h.stc 0 rfl (by simp [R35.c]) fun w1 h1 => ?_
  refine h1.ldB 2 rfl rfl ?_
  have two : ∀ {Kn' : Value → Value → Value → Value → Value → Value → Value → Value → World → Prop} {w' : World} {fl : Int}, fl = (let x : Int := if e.m.un = true then 4 else 0; if decide (j = 0) = true then bitI .or .u8 x 2 else x) → (∀ w' a c, Kn (.slice ra rn rc) (.int .u32 ((t + ((j + 1 : Nat) : Int)) % 4294967296)) (.int .i64 (sz : Int)) (.slice a (out ++ [mkCh sz e t st ssn j]).length c) (.slice na 4 nc) (.int .i64 (q : Int)) (.pointer (some ⟨bm, 0, none⟩)) (.int .i64 ((j * sz : Nat) : Int)) w' → Kn' (.slice ra rn rc) (.int .u32 ((t + ((j + 1 : Nat) : Int)) % 4294967296)) (.int .i64 (sz : Int)) (.slice a (out ++ [mkCh sz e t st ssn j]).length c) (.slice na 4 nc) (.int .i64 (q : Int)) (.pointer (some ⟨bm, 0, none⟩)) (.int .i64 ((j * sz : Nat) : Int)) w') →
      Hs W (pt b (.cells (R35.mk 0 fl tt st ssn e.m.pr 0 0 0 0 none 0 0 none 0 0 none 0 0 (mkCh sz e t st ssn j).r.f13a (mkCh sz e t st ssn j).r.f13n (mkCh sz e t st ssn j).r.f13c none 0 0).c 36 (0, 0)) :: slP 36 15 oa out.length oc (rV out) :: pt bm (.cells (mrec e st ssn).c 39 (0, 0)) :: M) w' →
      F17_2 Kn' (.slice ra rn rc) (.int .u32 tt) (.int .i64 (sz : Int)) (.slice oa out.length oc) (.slice na 4 nc) (.int .i64 (q : Int)) (.pointer (some ⟨bm, 0, none⟩)) (.int .i64 ((j * sz : Nat) : Int)) (.pointer (some ⟨b, 0, none⟩)) w' := by
    intro Kn' w' fl hfl hk hh
    have eup : IntKind.wrap .u32 (tt + 1) = (t + ((j + 1 : Nat) : Int)) % 4294967296 := by rw [htt, wrap_u32_mod]; omega
    unfold F17_2
    simp only [rdC_mk, rdI_mk, rdA_mk, add_mk]
    refine hh.ldC 2 rfl rfl ?_
    have e1 : IntKind.wrap .i64 (((j * sz : Nat) : Int) + (sz : Int)) = ((j * sz + sz : Nat) : Int) := by rw [wrap_i64 (by omega) (by omega)]; omega
    rw [e1]
    show br (decide (((j * sz + sz : Nat) : Int) ≥ ((e.m.d.length : Nat) : Int))) _ _
    rw [br_dec]
    refine ⟨fun hg => ?_, fun hg => ?_⟩
    · refine hh.ldI 0 rfl rfl ?_
      refine hh.stc 0 rfl (by simp [R35.c]) fun w3 h3 => ?_
      have hx : mkCh sz e t st ssn j = ⟨R35.mk 0 (bitI .or .u8 fl 1) tt st ssn e.m.pr 0 0 0 0 none 0 0 none 0 0 none 0 0 (mkCh sz e t st ssn j).r.f13a (mkCh sz e t st ssn j).r.f13n (mkCh sz e t st ssn j).r.f13c none 0 0, (mkCh sz e t st ssn j).b⟩ := by
        unfold mkCh flg
        simp only
        rw [decide_eq_true (show e.m.d.length ≤ j * sz + sz by omega), if_pos rfl, htt, hfl]
      refine c17_1 (x := mkCh sz e t st ssn j) hol (fun w4 a c h4 _g => ?_) (by rw [hx]; exact h3)
      simp only [rdC_mk, rdI_mk, rdA_mk]
      rw [eup]
      exact hk w4 a c (hK w4 a c h4)
    · have hx : mkCh sz e t st ssn j = ⟨R35.mk 0 fl tt st ssn e.m.pr 0 0 0 0 none 0 0 none 0 0 none 0 0 (mkCh sz e t st ssn j).r.f13a (mkCh sz e t st ssn j).r.f13n (mkCh sz e t st ssn j).r.f13c none 0 0, (mkCh sz e t st ssn j).b⟩ := by
        unfold mkCh flg
        simp only
        rw [decide_eq_false (show ¬ e.m.d.length ≤ j * sz + sz by omega), if_neg (by simp), htt, hfl]
      refine c17_1 (x := mkCh sz e t st ssn j) hol (fun w4 a c h4 _g => ?_) (by rw [hx]; exact hh)
      simp only [rdC_mk, rdI_mk, rdA_mk]
      rw [eup]
      exact hk w4 a c (hK w4 a c h4)
  have hj0 : (((j * sz : Nat) : Int) == 0) = decide (j = 0) := by
    rw [Bool.eq_iff_iff, decide_eq_true_eq, beq_iff_eq]
    constructor
    · intro h
      have h0 : j * sz = 0 := by omega
      rcases Nat.mul_eq_zero.1 h0 with h' | h'
      · exact h'
      · omega
    · intro h; subst h; simp
  have three : ∀ {Kn' : Value → Value → Value → Value → Value → Value → Value → Value → World → Prop} {w' : World} {fl : Int}, fl = (if e.m.un = true then 4 else 0) → (∀ w' a c, Kn (.slice ra rn rc) (.int .u32 ((t + ((j + 1 : Nat) : Int)) % 4294967296)) (.int .i64 (sz : Int)) (.slice a (out ++ [mkCh sz e t st ssn j]).length c) (.slice na 4 nc) (.int .i64 (q : Int)) (.pointer (some ⟨bm, 0, none⟩)) (.int .i64 ((j * sz : Nat) : Int)) w' → Kn' (.slice ra rn rc) (.int .u32 ((t + ((j + 1 : Nat) : Int)) % 4294967296)) (.int .i64 (sz : Int)) (.slice a (out ++ [mkCh sz e t st ssn j]).length c) (.slice na 4 nc) (.int .i64 (q : Int)) (.pointer (some ⟨bm, 0, none⟩)) (.int .i64 ((j * sz : Nat) : Int)) w') →
      Hs W (pt b (.cells (R35.mk 0 fl tt st ssn e.m.pr 0 0 0 0 none 0 0 none 0 0 none 0 0 (mkCh sz e t st ssn j).r.f13a (mkCh sz e t st ssn j).r.f13n (mkCh sz e t st ssn j).r.f13c none 0 0).c 36 (0, 0)) :: slP 36 15 oa out.length oc (rV out) :: pt bm (.cells (mrec e st ssn).c 39 (0, 0)) :: M) w' →
      F17_3 Kn' (.slice ra rn rc) (.int .u32 tt) (.int .i64 (sz : Int)) (.slice oa out.length oc) (.slice na 4 nc) (.int .i64 (q : Int)) (.pointer (some ⟨bm, 0, none⟩)) (.int .i64 ((j * sz : Nat) : Int)) (.pointer (some ⟨b, 0, none⟩)) w' := by
    intro Kn' w' fl hfl hk hh
    unfold F17_3
    simp only [rdC_mk, rdI_mk, rdA_mk, add_mk]
    rw [hj0, br_iff]
    refine ⟨fun h0 => ?_, fun h0 => ?_⟩
    · refine hh.ldI 0 rfl rfl ?_
      refine hh.stc 0 rfl (by simp [R35.c]) fun w3 h3 => ?_
      refine two (fl := bitI .or .u8 fl 2) (by simp only; rw [if_pos h0, hfl]) (fun w4 a c h4 _g => ?_) h3
      simp only [rdC_mk, rdI_mk, rdA_mk]
      exact hk w4 a c h4
    · refine two (fl := fl) (by simp only; rw [if_neg (by rw [h0]; simp), hfl]) (fun w4 a c h4 _g => ?_) hh
      simp only [rdC_mk, rdI_mk, rdA_mk]
      exact hk w4 a c h4
  show br e.m.un _ _
  rw [br_iff]
  refine ⟨fun hu => ?_, fun hu => ?_⟩
  · refine h1.stc 0 rfl (by simp [R35.c]) fun w2 h2 => ?_
    refine three (fl := 4) (by rw [if_pos hu]) (fun w4 a c h4 _g => ?_) h2
    simp only [rdC_mk, rdI_mk, rdA_mk]
    exact h4
  · refine three (fl := 0) (by rw [if_neg (by rw [hu]; simp)]) (fun w4 a c h4 _g => ?_) h1
    simp only [rdC_mk, rdI_mk, rdA_mk]
    exact h4
theorem c17_5 {K2 : Value → Value → Value → Value → Value → Value → World → Prop} {q : Nat} (hs : 1 ≤ sz ∧ sz ≤ 7) (hd : e.m.d.length ≤ 500) (hc : e.m.d.length ≤ e.c) (ht : 0 ≤ t ∧ t < 4294967296) (out : List Ch) (hol : out.length ≤ 50000)
    (hK : ∀ w' a c, Hs W (slP 36 15 a (out ++ (mkBk sz e t st ssn).chs).length c (rV (out ++ (mkBk sz e t st ssn).chs)) :: pt bm (.cells (mrec e st ssn).c 39 (0, 0)) :: M) w' → K2 (.slice ra rn rc) (.int .u32 ((t + (ncE sz e : Int)) % 4294967296)) (.int .i64 (sz : Int)) (.slice a (out ++ (mkBk sz e t st ssn).chs).length c) (.slice na 4 nc) (.int .i64 (q : Int)) w') :
    ∀ (m j k : Nat) (w : World) (oa : Option Addr) (oc : Nat) (o : List Ch) (tt : Int), j + m = ncE sz e → o = out ++ (List.range j).map (mkCh sz e t st ssn) → tt = (t + (j : Int)) % 4294967296 → m < k → Hs W (slP 36 15 oa o.length oc (rV o) :: pt bm (.cells (mrec e st ssn).c 39 (0, 0)) :: M) w →
      F17_5 K2 k (.slice ra rn rc) (.int .u32 tt) (.int .i64 (sz : Int)) (.slice oa o.length oc) (.slice na 4 nc) (.int .i64 (q : Int)) (.pointer (some ⟨bm, 0, none⟩)) (.int .i64 ((j * sz : Nat) : Int)) w := by
  have hnc : ncE sz e ≤ 1000 := by
    unfold ncE
    have := Nat.div_le_self (e.m.d.length + sz - 1) sz
    omega
  intro m
  induction m with
  | zero =>
    intro j k w oa oc o tt hj ho htt hk h
    obtain ⟨k, rfl⟩ : ∃ j, k = j + 1 := ⟨k - 1, by omega⟩
    have hjn : j = ncE sz e := by omega
    show F17_5B _ _ _ _ _ _ _ _ _ _ _
    unfold F17_5B
    simp only [rdC_mk, rdI_mk, rdA_mk, add_mk]
    refine h.ldC 1 rfl rfl ?_
    show br (decide (((j * sz : Nat) : Int) < ((e.m.d.length : Nat) : Int))) _ _
    have := nc_iff (e := e) hs j
    rw [br_dec]
    refine ⟨fun hlt => by exfalso; omega, fun _ => ?_⟩
    have he : o = out ++ (mkBk sz e t st ssn).chs := by rw [ho, hjn]; rfl
    rw [he] at h ⊢
    rw [htt, hjn]
    exact hK w oa oc h
  | succ m ih =>
    intro j k w oa oc o tt hj ho htt hk h
    obtain ⟨k, rfl⟩ : ∃ j, k = j + 1 := ⟨k - 1, by omega⟩
    have hjd := (nc_iff (e := e) hs j).1 (by omega)
    have hol2 : o.length ≤ 100000 := by rw [ho]; simp; omega
    have he1 : (if ((e.m.d.length : Nat) : Int) < IntKind.wrap .i64 (((j * sz : Nat) : Int) + (sz : Int)) then ((e.m.d.length : Nat) : Int) else IntKind.wrap .i64 (((j * sz : Nat) : Int) + (sz : Int))) = ((min (j * sz + sz) e.m.d.length : Nat) : Int) := by
      have e1 : IntKind.wrap .i64 (((j * sz : Nat) : Int) + (sz : Int)) = ((j * sz + sz : Nat) : Int) := by rw [wrap_i64 (by omega) (by omega)]; omega
      rw [e1]
      split <;> omega
    have hsl : ∀ {K : Option Addr → Nat → Nat → Prop}, K (mkCh sz e t st ssn j).r.f13a (mkCh sz e t st ssn j).r.f13n (mkCh sz e t st ssn j).r.f13c → slS 1 e.a e.m.d.length e.c (some (.int .i64 ((j * sz : Nat) : Int))) (some (.int .i64 ((min (j * sz + sz) e.m.d.length : Nat) : Int))) K := fun hk' => slS_lh (by omega) (by omega) hk'
    show F17_5B _ _ _ _ _ _ _ _ _ _ _
    unfold F17_5B
    simp only [rdC_mk, rdI_mk, rdA_mk, add_mk]
    refine h.ldC 1 rfl rfl ?_
    show br (decide (((j * sz : Nat) : Int) < ((e.m.d.length : Nat) : Int))) _ _
    rw [br_dec]
    refine ⟨fun _ => ?_, fun hlt => by exfalso; omega⟩
    refine h.drw fun w1 h1 => ?_
    refine h1.ldI 1 rfl rfl (h1.ldI 1 rfl rfl (h1.ldC 1 rfl rfl (h1.ldC 1 rfl rfl ?_)))
    show ((Pres w1 w1 ∧ (slS 1 e.a e.m.d.length e.c (some (.int .i64 ((j * sz : Nat) : Int))) (some (.int .i64 (if ((e.m.d.length : Nat) : Int) < IntKind.wrap .i64 (((j * sz : Nat) : Int) + (sz : Int)) then ((e.m.d.length : Nat) : Int) else IntKind.wrap .i64 (((j * sz : Nat) : Int) + (sz : Int))))) _)) ∧ (alc _ w1 fun b50 w51 => Pres w1 w51 ∧ (Pres w1 w51 ∧ (slS 1 e.a e.m.d.length e.c (some (.int .i64 ((j * sz : Nat) : Int))) (some (.int .i64 (if ((e.m.d.length : Nat) : Int) < IntKind.wrap .i64 (((j * sz : Nat) : Int) + (sz : Int)) then ((e.m.d.length : Nat) : Int) else IntKind.wrap .i64 (((j * sz : Nat) : Int) + (sz : Int))))) _))))
    rw [he1]
    have h1 : Hs W (slP 36 15 oa o.length oc (rV o) :: pt bm (.cells (mrec e st ssn).c 39 (0, 0)) :: M) w1 := h1
    have fin : ∀ {b : Nat} {w' : World} {Kn : Value → Value → Value → Value → Value → Value → Value → Value → World → Prop}, (∀ y1 y7 w', F17_5 K2 k (.slice ra rn rc) y1 (.int .i64 (sz : Int)) y7 (.slice na 4 nc) (.int .i64 (q : Int)) (.pointer (some ⟨bm, 0, none⟩)) (.int .i64 (((j + 1) * sz : Nat) : Int)) w' → ∀ n1 l c, y1 = .int .u32 n1 → y7 = .slice l (o ++ [mkCh sz e t st ssn j]).length c → Kn (.slice ra rn rc) y1 (.int .i64 (sz : Int)) y7 (.slice na 4 nc) (.int .i64 (q : Int)) (.pointer (some ⟨bm, 0, none⟩)) (.int .i64 ((j * sz : Nat) : Int)) w') →
        Hs W (pt b (.cells (R35.mk 0 0 tt st ssn 0 0 0 0 0 none 0 0 none 0 0 none 0 0 (mkCh sz e t st ssn j).r.f13a (mkCh sz e t st ssn j).r.f13n (mkCh sz e t st ssn j).r.f13c none 0 0).c 36 (0, 0)) :: slP 36 15 oa o.length oc (rV o) :: pt bm (.cells (mrec e st ssn).c 39 (0, 0)) :: M) w' →
        F17_4 Kn (.slice ra rn rc) (.int .u32 tt) (.int .i64 (sz : Int)) (.slice oa o.length oc) (.slice na 4 nc) (.int .i64 (q : Int)) (.pointer (some ⟨bm, 0, none⟩)) (.int .i64 ((j * sz : Nat) : Int)) (.pointer (some ⟨b, 0, none⟩)) w' := by
      intro b w' Kn hk1 hh
      refine c17_4 (out := o) hol2 hs hd hjd htt (fun w2 a c h2 => hk1 _ _ w2 ?_ _ a c rfl rfl) hh
      refine ih (j + 1) k w2 a c (o ++ [mkCh sz e t st ssn j]) _ (by omega) ?_ rfl (by omega) h2
      rw [ho, List.range_succ, List.map_append, List.append_assoc]
      rfl
    have e9 : IntKind.wrap .i64 (((j * sz : Nat) : Int) + (sz : Int)) = (((j + 1) * sz : Nat) : Int) := by
      rw [Nat.add_mul, Nat.one_mul, wrap_i64 (by omega) (by omega)]; omega
    have twelve : ∀ (w' : World), Calls Try.prog 12 #[.int .u32 tt, .int .u8 0, .int .u16 st, .int .u16 ssn, .slice (mkCh sz e t st ssn j).r.f13a (mkCh sz e t st ssn j).r.f13n (mkCh sz e t st ssn j).r.f13c] w' (rt fun v w'' => v = (R35.mk 0 0 tt st ssn 0 0 0 0 0 none 0 0 none 0 0 none 0 0 (mkCh sz e t st ssn j).r.f13a (mkCh sz e t st ssn j).r.f13n (mkCh sz e t st ssn j).r.f13c none 0 0).v ∧ Same w' w'') := fun w' => c12 _ _ _ _ _ _ _ w'
    have wrapk : ∀ y1 y7 w', F17_5 K2 k (.slice ra rn rc) y1 (.int .i64 (sz : Int)) y7 (.slice na 4 nc) (.int .i64 (q : Int)) (.pointer (some ⟨bm, 0, none⟩)) (.int .i64 (((j + 1) * sz : Nat) : Int)) w' → ∀ n1 l c, y1 = .int .u32 n1 → y7 = .slice l (o ++ [mkCh sz e t st ssn j]).length c → (fun (y0 y1 y2 y7 y8 y9 y10 y11 : Value) (w23 : World) => ∀ _g : Tm, rdC y0 fun l25a l25n l25c => rdI .u32 y1 fun n26 => rdI .i64 y2 fun n27 => rdC y7 fun l28a l28n l28c => rdC y8 fun l29a l29n l29c => rdI .i64 y9 fun n30 => rdA y10 fun a31 => rdI .i64 y11 fun n32 => F17_5 K2 k (.slice l25a l25n l25c) (.int .u32 n26) (.int .i64 n27) (.slice l28a l28n l28c) (.slice l29a l29n l29c) (.int .i64 n30) (.pointer (some a31)) (.int .i64 (IntKind.wrap .i64 (n32 + n27))) w23) (.slice ra rn rc) y1 (.int .i64 (sz : Int)) y7 (.slice na 4 nc) (.int .i64 (q : Int)) (.pointer (some ⟨bm, 0, none⟩)) (.int .i64 ((j * sz : Nat) : Int)) w' := by
      intro y1 y7 w' h' n1 l c hy1 hy7 _g
      subst hy1 hy7
      simp only [rdC_mk, rdI_mk, rdA_mk]
      rw [e9]
      exact h'
    refine ⟨⟨Pres.refl _, hsl ⟨?_, ?_⟩⟩, ?_⟩
    · refine cl (twelve w1) ?_
      rintro _ w2 ⟨rfl, s2⟩
      refine exR35_of _ ⟨rfl, ?_⟩
      refine alcP (h1.same s2) fun b19 w3 p3 h3 => ⟨(Pres.of_Same s2).trans p3, ?_⟩
      refine h3.stcL 0 rfl rfl fun w4 h4 => ?_
      exact fin wrapk h4
    · refine alcP h1 fun b33 w3 p3 h3 => ⟨p3, ?_⟩
      refine cl (twelve w3) ?_
      rintro _ w4 ⟨rfl, s4⟩
      refine exR35_of _ ⟨rfl, ?_⟩
      refine (h3.same s4).stcL 0 rfl rfl fun w5 h5 => ?_
      exact fin wrapk h5
    · refine alcP h1 fun b50 w3 p3 h3 => ⟨p3, p3, hsl ?_⟩
      refine cl (twelve w3) ?_
      rintro _ w4 ⟨rfl, s4⟩
      refine exR35_of _ ⟨rfl, ?_⟩
      refine (h3.same s4).stcL 0 rfl rfl fun w5 h5 => ?_
      exact fin wrapk h5
/-- a message that is handed in -/
structure EmIn (W : World) (e : Em) : Prop extends EmOk e where
  rd : Rd W e.a (inV .u8 e.m.d)
  cap : e.m.d.length ≤ e.c
  by8 : ∀ v ∈ e.m.d, 0 ≤ v ∧ v < 256
theorem c17_7 {K0 : Value → World → Prop} {right : List Em} (hs : 1 ≤ sz ∧ sz ≤ 7) (hr : right.length ≤ 40) (hin : ∀ e ∈ right, EmIn W e) (hrd : ∀ w', Hs W M w' → Rd w' ra (msV right)) :
    ∀ (r : List Em) (q k : Nat) (t : Int) (nx : List Int) (out : List Ch) (w : World) (oa na : Option Addr) (oc nc : Nat), r = right.drop q → q ≤ right.length → nx.length = 4 → (0 ≤ t ∧ t < 4294967296) → out.length ≤ 500 * q → right.length - q < k → (∀ w' a c, Hs W (slP 36 15 a (out ++ (cutB sz r t nx).flatMap Bk.chs).length c (rV (out ++ (cutB sz r t nx).flatMap Bk.chs)) :: M) w' → K0 (.slice a (out ++ (cutB sz r t nx).flatMap Bk.chs).length c) w') →
      Hs W (slP 36 15 oa out.length oc (rV out) :: slP 31 1 na 4 nc (inV .u16 nx) :: M) w →
      F17_7 K0 k (.slice ra right.length rc) (.int .u32 t) (.int .i64 (sz : Int)) (.slice oa out.length oc) (.slice na 4 nc) (.int .i64 (q : Int)) w
  | [], q, k, t, nx, out, w, oa, na, oc, nc, hq, hql, hn, ht, hol, hk, hK, h => by
    obtain ⟨k, rfl⟩ : ∃ j, k = j + 1 := ⟨k - 1, by omega⟩
    have hqe : q = right.length := by
      have := congrArg List.length hq
      simp at this
      omega
    show F17_7B _ _ _ _ _ _ _ _ _
    unfold F17_7B
    simp only [rdC_mk, rdI_mk]
    rw [br_dec]
    refine ⟨fun hlt => by exfalso; omega, fun _ => ?_⟩
    have e0 : out ++ (cutB sz [] t nx).flatMap Bk.chs = out := by simp [cutB]
    rw [e0] at hK
    exact hK w oa oc (h.erase 1)
  | e :: r, q, k, t, nx, out, w, oa, na, oc, nc, hq, hql, hn, ht, hol, hk, hK, h => by
    obtain ⟨k, rfl⟩ : ∃ j, k = j + 1 := ⟨k - 1, by omega⟩
    have hqe : right[q]? = some e := by
      have := congrArg (·[0]?) hq
      simp only [List.getElem?_cons_zero, List.getElem?_drop, Nat.add_zero] at this
      exact this.symm
    have hqlt : q < right.length := (List.getElem?_eq_some_iff.1 hqe).1
    have hq' : r = right.drop (q + 1) := by
      have := congrArg List.tail hq
      simpa using this
    have hei := hin e (List.mem_of_getElem? hqe)
    have hst := hei.st
    have hfew := hei.few
    show F17_7B _ _ _ _ _ _ _ _ _
    unfold F17_7B
    simp only [rdC_mk, rdI_mk, add_mk]
    rw [br_dec]
    refine ⟨fun _ => ?_, fun hlt => by exfalso; omega⟩
    have hr0 := hrd w h.drop.drop
    obtain ⟨rd, hra⟩ := hr0.some (by rw [msV_length]; omega)
    have hr1 : Rd w (some rd) (msV right) := by rw [← hra]; exact hr0
    rw [hra]
    refine ixS_to rfl hqlt ?_
    refine ldR38_of (s := e.rc) (hr1.atI (f := fun e : Em => e.rc.l) (m := 5) (i := q) (fun _ => rfl) hqe) ?_
    rw [← hra]
    refine h.alc fun bm w1 h1 => ?_
    refine h1.stcL 0 rfl rfl fun w2 h2 => ?_
    refine h2.ldI 0 rfl rfl ?_
    refine h2.stc 0 rfl (by simp [R38.l]) fun w3 h3 => ?_
    refine h3.stc 0 rfl (by simp [R38.l]) fun w4 h4 => ?_
    have hmod : Int.tmod e.rc.f0 4 = e.m.st % 4 := by
      show Int.tmod e.m.st 4 = _
      exact Int.tmod_eq_emod_of_nonneg hst.1
    have h4 : Hs W (pt bm (.cells (R38.mk (Int.tmod e.rc.f0 4) 0 e.m.pr e.m.un e.a e.m.d.length e.c).c 39 (0, 0)) :: slP 36 15 oa out.length oc (rV out) :: slP 31 1 na 4 nc (inV .u16 nx) :: M) w4 := h4
    rw [hmod] at h4
    have hnc := nc_le hei.toEmOk hs
    have six : ∀ {w' : World} {na' : Option Addr} {Kn : Value → Value → Value → Value → Value → Value → World → Prop}, (∀ y1 y7 w', F17_7 K0 k (.slice ra right.length rc) y1 (.int .i64 (sz : Int)) y7 (.slice na' 4 nc) (.int .i64 ((q + 1 : Nat) : Int)) w' → ∀ n1 l n c, y1 = .int .u32 n1 → y7 = .slice l n c → Kn (.slice ra right.length rc) y1 (.int .i64 (sz : Int)) y7 (.slice na' 4 nc) (.int .i64 (q : Int)) w') →
        Hs W (pt bm (.cells (mrec e (e.m.st % 4) (ssnE e nx)).c 39 (0, 0)) :: slP 36 15 oa out.length oc (rV out) :: slP 31 1 na' 4 nc (inV .u16 (nxE e nx)) :: M) w' →
        F17_6 Kn (.slice ra right.length rc) (.int .u32 t) (.int .i64 (sz : Int)) (.slice oa out.length oc) (.slice na' 4 nc) (.int .i64 (q : Int)) (.pointer (some ⟨bm, 0, none⟩)) w' := by
      intro w' na' Kn hk1 hh
      unfold F17_6
      simp only [rdC_mk, rdI_mk, rdA_mk]
      have hh' := hh.perm (List.Perm.swap _ _ _)
      rw [show (Value.int .i64 0) = Value.int .i64 ((0 * sz : Nat) : Int) by rw [Nat.zero_mul]; rfl]
      refine ⟨ncE sz e + 1, c17_5 (st := e.m.st % 4) (ssn := ssnE e nx) (q := q) hs hfew hei.cap ht out (by omega) (fun w5 a c h5 _g => ?_) (ncE sz e) 0 (ncE sz e + 1) w' oa oc out t (by omega) (by simp) (by omega) (by omega) hh'⟩
      simp only [rdC_mk, rdI_mk]
      refine hk1 _ _ w5 ?_ _ _ _ _ rfl rfl
      have h6 := h5.erase 1
      refine c17_7 hs hr hin hrd r (q + 1) k ((t + (ncE sz e : Int)) % 4294967296) (nxE e nx) (out ++ (mkBk sz e t (e.m.st % 4) (ssnE e nx)).chs) w5 a na' c nc hq' (by omega) (by unfold nxE; split <;> simp [hn]) (by omega) ?_ (by omega) (fun w7 a7 c7 h7 => ?_) h6
      · rw [List.length_append]
        have : (mkBk sz e t (e.m.st % 4) (ssnE e nx)).chs.length = ncE sz e := by simp [mkBk]
        omega
      · have ee : out ++ (cutB sz (e :: r) t nx).flatMap Bk.chs = (out ++ (mkBk sz e t (e.m.st % 4) (ssnE e nx)).chs) ++ (cutB sz r ((t + (ncE sz e : Int)) % 4294967296) (nxE e nx)).flatMap Bk.chs := by
          unfold cutB
          rw [List.flatMap_cons, List.append_assoc]
          cases r <;> rfl
        rw [ee] at hK
        exact hK w7 a7 c7 h7
    have e9 : IntKind.wrap .i64 ((q : Int) + 1) = ((q + 1 : Nat) : Int) := by rw [wrap_i64 (by omega) (by omega)]; omega
    have wrapk : ∀ (na' : Option Addr) (y1 y7 : Value) (w' : World), F17_7 K0 k (.slice ra right.length rc) y1 (.int .i64 (sz : Int)) y7 (.slice na' 4 nc) (.int .i64 ((q + 1 : Nat) : Int)) w' → ∀ n1 l n c, y1 = .int .u32 n1 → y7 = .slice l n c → (fun (y0 y1 y2 y7 y8 y9 : Value) (w26 : World) => ∀ _g : Tm, rdC y0 fun l28a l28n l28c => rdI .u32 y1 fun n29 => rdI .i64 y2 fun n30 => rdC y7 fun l31a l31n l31c => rdC y8 fun l32a l32n l32c => rdI .i64 y9 fun n33 => F17_7 K0 k (.slice l28a l28n l28c) (.int .u32 n29) (.int .i64 n30) (.slice l31a l31n l31c) (.slice l32a l32n l32c) (.int .i64 (IntKind.wrap .i64 (n33 + 1))) w26) (.slice ra right.length rc) y1 (.int .i64 (sz : Int)) y7 (.slice na' 4 nc) (.int .i64 (q : Int)) w' := by
      intro na' y1 y7 w' h' n1 l n c hy1 hy7 _g
      subst hy1 hy7
      simp only [rdC_mk, rdI_mk]
      rw [e9]
      exact h'
    refine h4.ldB 0 rfl rfl ?_
    show br (!e.m.un) _ _
    rw [br_iff]
    refine ⟨fun hu => ?_, fun hu => ?_⟩
    · have hu' : e.m.un = false := by simpa using hu
      obtain ⟨p, hp⟩ : ∃ p : Nat, e.m.st % 4 = (p : Int) := ⟨(e.m.st % 4).toNat, by omega⟩
      have hpl : p < nx.length := by omega
      have hnx : nx[p]? = some (nx.getD (e.m.st % 4).toNat 0) := by
        rw [hp, Int.toNat_natCast, List.getD_eq_getElem?_getD, List.getElem?_eq_getElem hpl]; rfl
      refine h4.ldI 0 rfl rfl ?_
      have hrn := h4.rd 2 rfl
      obtain ⟨nd, hna⟩ := hrn.some (by rw [inV_length]; omega)
      subst hna
      show ixS 1 (some nd) 4 (e.m.st % 4) _
      refine ixS_to hp (by omega) ?_
      rw [Nat.mul_one]
      refine ldI_c ((h4.rd 2 rfl).at (inV_at hnx)) ?_
      refine h4.stc 0 rfl (by simp [R38.c]) fun w5 h5 => ?_
      refine h5.ldI 0 rfl rfl ?_
      show ixS 1 (some nd) 4 (e.m.st % 4) _
      refine ixS_to hp (by omega) ?_
      rw [Nat.mul_one]
      refine ldI_c ((h5.rd 2 rfl).at (inV_at hnx)) ?_
      show ixS 1 (some nd) 4 (e.m.st % 4) _
      refine ixS_to hp (by omega) ?_
      rw [Nat.mul_one]
      refine h5.put 2 rfl (by rw [inV_length]; exact hpl) fun w6 h6 => ?_
      refine six (wrapk (some nd)) ?_
      have ess : ssnE e nx = nx.getD (e.m.st % 4).toNat 0 := by unfold ssnE; rw [if_neg (by rw [hu']; simp)]
      have enx : nxE e nx = nx.set p (IntKind.wrap .u16 (nx.getD (e.m.st % 4).toNat 0 + 1)) := by unfold nxE; rw [if_neg (by rw [hu']; simp), hp, Int.toNat_natCast]
      rw [ess, enx, ← inV_set]
      exact h6
    · have hu' : e.m.un = true := by simpa using hu
      refine six (wrapk na) ?_
      have ess : ssnE e nx = 0 := by unfold ssnE; rw [if_pos hu']
      have enx : nxE e nx = nx := by unfold nxE; rw [if_pos hu']
      rw [ess, enx]
      exact h4
theorem c17 {right : List Em} (hs : 1 ≤ sz ∧ sz ≤ 7) (hr : right.length ≤ 40) (ht : 0 ≤ t ∧ t < 4294967296) (hin : ∀ e ∈ right, EmIn W e) (hrd : ∀ w', Hs W M w' → Rd w' ra (msV right)) (h : Hs W M w) :
    Calls Try.prog 17 #[.slice ra right.length rc, .int .u32 t, .int .i64 (sz : Int)] w (rt fun v w' => ∃ a c, v = .slice a ((cutB sz right t [0, 0, 0, 0]).flatMap Bk.chs).length c ∧ Hs W (slP 36 15 a ((cutB sz right t [0, 0, 0, 0]).flatMap Bk.chs).length c (rV ((cutB sz right t [0, 0, 0, 0]).flatMap Bk.chs)) :: M) w') := by
  refine F17_ok ?_
  unfold F17
  simp only [rdC_mk, rdI_mk]
  refine h.make (n := 4) E46 (by decide) (by decide) (by decide) fun na w4 h4 _ => ?_
  rw [zeros16] at h4
  have h5 := h4.nil 36 15
  refine ⟨right.length + 1, c17_7 hs hr hin hrd right 0 _ t [0, 0, 0, 0] [] w4 none na 0 4 rfl (Nat.zero_le _) rfl ht (by simp) (by omega) (fun w' a c h' _g => ?_) h5⟩
  simp only [rdC_mk]
  rw [List.nil_append] at h' ⊢
  exact ⟨a, c, by first | rfl | trivial, h'⟩
end
end Go.Proofs.Ytaflmpbeonoilaa
