/-
  Chunks make the same messages in whatever order they come (ReasmAny).
-/
import Derived.Test.YtaflmpbeonoilaaRmTf
import Derived.Test.YtaflmpbeonoilaaRmE
namespace Go.Proofs.Ytaflmpbeonoilaa
open Go Go.Sh Go.RowKit
structure CkIn (W : World) (x : Ch) : Prop where
  rd : Rd W x.r.f13a (inV .u8 x.b)
  len : x.r.f13n = x.b.length
theorem mkCh_in {W : World} {sz : Nat} {e : Em} {t st ssn : Int} (hs : 1 ≤ sz ∧ sz ≤ 7) (h : EmIn W e) {j : Nat} (hj : j < ncE sz e) : CkIn W (mkCh sz e t st ssn j) := by
  have hjd := (nc_iff (e := e) hs j).1 hj
  have hcap := h.cap
  refine ⟨?_, ?_⟩
  · have h1 := rd_tail (f := j * sz) (sz := 1) (c := e.c) h.rd fun hc => by
      rw [List.drop_eq_nil_of_le]
      rw [inV_length]; omega
    have h2 := rd_take (k := sz) h1
    have e1 : ((inV .u8 e.m.d).drop (j * sz * 1)).take sz = inV .u8 ((e.m.d.drop (j * sz)).take sz) := by
      rw [Nat.mul_one]; simp [inV, List.map_drop, List.map_take]
    rw [e1] at h2
    exact h2
  · show min (j * sz + sz) e.m.d.length - j * sz = ((e.m.d.drop (j * sz)).take sz).length
    rw [List.length_take, List.length_drop]; omega
theorem cutB_in {W : World} {sz : Nat} (hs : 1 ≤ sz ∧ sz ≤ 7) : ∀ (r : List Em) (t : Int) (nx : List Int), (∀ e ∈ r, EmIn W e) → ∀ x ∈ (cutB sz r t nx).flatMap Bk.chs, CkIn W x
  | [], _, _, _, x, hx => by simp [cutB] at hx
  | e :: r, t, nx, h, x, hx => by
    unfold cutB at hx
    rw [List.flatMap_cons] at hx
    rcases List.mem_append.1 hx with hx | hx
    · obtain ⟨j, hj, rfl⟩ := List.mem_map.1 hx
      exact mkCh_in hs (h e (by simp)) (List.mem_range.1 hj)
    · exact cutB_in hs r _ _ (fun y hy => h y (by simp [hy])) x hx
section
variable {W w : World} {L Z : List HP} {tb sz : Nat} {xa ca oa : Option Addr} {xc cc oc : Nat} {R : List Em} {s : St} {B : List Bk} {Cs : List Ch}
/-- a table into which chunks of these blocks are put -/
structure OkC (B : List Bk) (s : St) : Prop where
  okl : OkL s 4 1073741824
  quiet : Quiet s
  inv : ∃ T, InvT B s T
theorem OkC.put (hc : Cut B) (h : OkC B s) {c : Ch} (hx : c ∈ B.flatMap Bk.chs) : OkC B (putT s c) ∧ Kn (putT s c) c.tsn := by
  obtain ⟨k, hk, hck⟩ := List.mem_flatMap.1 hx
  obtain ⟨T, hT⟩ := h.inv
  have hok := ck_ok hc hk hck
  obtain ⟨h1, h2⟩ := inv_put hc hT h.okl.limE hk hck
  exact ⟨⟨h.okl.put hok, quiet_put h.okl.toOkB hok (by rw [h.okl.limE]; decide) h.quiet, h1⟩, h2⟩
theorem ld_ck {N : List HP} {q j : Nat} {x : Ch} {i : Int} {K : Addr → Prop} (h : Hs W N w) (hq : N[q]? = some (slP 36 15 ca Cs.length cc (rV Cs))) (hi : i = (j : Int)) (he : Cs[j]? = some x) (hk : ∀ ad, At w ad x.r.l → K ad) : ixS 15 ca Cs.length i K := by
  have hj := (List.getElem?_eq_some_iff.1 he).1
  have hr := h.rd q hq
  obtain ⟨rd, hra⟩ := hr.some (by rw [rV_length]; omega)
  rw [hra] at hr ⊢
  exact ixS_to hi hj (hk _ (hr.atI (f := fun x : Ch => x.r.l) (m := 15) (i := j) (fun _ => rfl) he))
/-- a chunk is put -/
theorem put_one (hc : Cut B) (hin : ∀ x ∈ Cs, CkIn W x) (hCs : Cs = B.flatMap Bk.chs) {x : Ch} (hx : x ∈ Cs) (hok : OkC B s) (h : Hs W (tabP tb (tot s) s :: Z) w) :
    Calls Try.prog 11 #[.pointer (some ⟨tb, 0, none⟩), x.r.v] w (rt fun v w' => (∃ n : Int, v = .int .i64 n) ∧ OkC B (putT s x) ∧ Kn (putT s x) x.tsn ∧ Hs W (tabP tb (tot (putT s x)) (putT s x) :: Z) w') := by
  obtain ⟨k, hk, hck⟩ := List.mem_flatMap.1 (by rw [hCs] at hx; exact hx)
  have hxin := hin x hx
  have hlim : 0 ≤ s.lim ∧ s.lim ≤ 1073741824 := by rw [hok.okl.limE]; decide
  have hput := hok.put hc (c := x) (List.mem_flatMap.2 ⟨k, hk, hck⟩)
  refine rt_mono (c11 (x := x.r) (b := x.b) hok.okl.toOkB (ck_ok hc hk hck) hxin.len hlim (by rw [hok.okl.nxl]; decide) (fun w' h' => h'.rd_old hxin.rd) h) ?_
  rintro v w' ⟨rfl, h'⟩
  exact ⟨⟨_, rfl⟩, hput.1, hput.2, h'⟩
theorem c5_5 {K4 : Value → Value → Value → World → Prop} {n3 : Int} (hc : Cut B) (hin : ∀ x ∈ Cs, CkIn W x) (hCs : Cs = B.flatMap Bk.chs) (hl : Cs.length ≤ 100000)
    (hK : ∀ w' s', OkC B s' → (∀ x ∈ Cs, Kn s' x.tsn) → Hs W (tabP tb (tot s') s' :: slP 36 15 ca Cs.length cc (rV Cs) :: slP 39 5 xa R.length xc (msV R) :: L) w' → K4 (.pointer (some ⟨tb, 0, none⟩)) (.slice xa R.length xc) (.int .i64 n3) w') :
    ∀ (i j k : Nat) (s : St) (w : World), j + i = Cs.length → OkC B s → (∀ x ∈ Cs.take j, Kn s x.tsn) → Hs W (tabP tb (tot s) s :: slP 36 15 ca Cs.length cc (rV Cs) :: slP 39 5 xa R.length xc (msV R) :: L) w → i < k →
      F5_5 K4 k (.pointer (some ⟨tb, 0, none⟩)) (.slice xa R.length xc) (.int .i64 n3) (.slice ca Cs.length cc) (.int .i64 (j : Int)) w := by
  intro i
  induction i with
  | zero =>
    intro j k s w hj hok hkn h hk
    obtain ⟨k, rfl⟩ : ∃ j, k = j + 1 := ⟨k - 1, by omega⟩
    show F5_5B _ _ _ _ _ _ _ _
    unfold F5_5B
    simp only [rdP_mk, rdC_mk, rdI_mk]
    rw [br_dec]
    refine ⟨fun hlt => by exfalso; omega, fun _ => hK w s hok ?_ h⟩
    rw [List.take_of_length_le (by omega)] at hkn
    exact hkn
  | succ i ih =>
    intro j k s w hj hok hkn h hk
    obtain ⟨k, rfl⟩ : ∃ j, k = j + 1 := ⟨k - 1, by omega⟩
    show F5_5B _ _ _ _ _ _ _ _
    unfold F5_5B
    simp only [rdP_mk, rdC_mk, rdI_mk]
    rw [br_dec]
    refine ⟨fun _ => ?_, fun hlt => by exfalso; omega⟩
    obtain ⟨x, hx⟩ : ∃ x, Cs[j]? = some x := ⟨Cs[j]'(by omega), by simp⟩
    refine ld_ck h (q := 1) rfl rfl hx fun ad ha => ?_
    refine ldR35_of ha ?_
    refine cl (put_one hc hin hCs (List.mem_of_getElem? hx) hok h) ?_
    rintro _ w2 ⟨⟨n, rfl⟩, hok2, hk2, h2⟩
    refine ⟨_, rfl, ?_⟩
    have e1 : IntKind.wrap .i64 ((j : Int) + 1) = ((j + 1 : Nat) : Int) := by rw [wrap_i64 (by omega) (by omega)]; omega
    rw [e1]
    refine ih (j + 1) k _ w2 (by omega) hok2 (fun y hy => ?_) h2 (by omega)
    rw [List.take_add_one, hx] at hy
    rcases List.mem_append.1 hy with hy | hy
    · exact kn_putT (hkn y hy)
    · simp at hy; subst hy; exact hk2
theorem c5_7 {K2 : Value → Value → Value → Value → World → Prop} {n3 : Int} {O : List Int} (hc : Cut B) (hin : ∀ x ∈ Cs, CkIn W x) (hCs : Cs = B.flatMap Bk.chs) (hl : Cs.length ≤ 100000) (hO : Rd W oa (inV .u16 O)) (hOr : ∀ v ∈ O, 0 ≤ v ∧ v < 65536)
    (hK : ∀ w' s', OkC B s' → Hs W (tabP tb (tot s') s' :: slP 36 15 ca Cs.length cc (rV Cs) :: slP 39 5 xa R.length xc (msV R) :: L) w' → K2 (.pointer (some ⟨tb, 0, none⟩)) (.slice xa R.length xc) (.int .i64 n3) (.slice ca Cs.length cc) w') :
    ∀ (i j k : Nat) (s : St) (w : World), 2001 ≤ j + i → OkC B s → Hs W (tabP tb (tot s) s :: slP 36 15 ca Cs.length cc (rV Cs) :: slP 39 5 xa R.length xc (msV R) :: L) w → i < k →
      F5_7 K2 k (.slice oa O.length oc) (.pointer (some ⟨tb, 0, none⟩)) (.slice xa R.length xc) (.int .i64 n3) (.slice ca Cs.length cc) (.int .i64 (j : Int)) w := by
  intro i
  induction i with
  | zero =>
    intro j k s w hj hok h hk
    obtain ⟨k, rfl⟩ : ∃ j, k = j + 1 := ⟨k - 1, by omega⟩
    show F5_7B _ _ _ _ _ _ _ _ _
    unfold F5_7B
    simp only [rdP_mk, rdC_mk, rdI_mk]
    rw [br_dec, br_dec]
    exact ⟨fun _ => ⟨fun hlt => by exfalso; omega, fun _ => hK w s hok h⟩, fun _ => hK w s hok h⟩
  | succ i ih =>
    intro j k s w hj hok h hk
    obtain ⟨k, rfl⟩ : ∃ j, k = j + 1 := ⟨k - 1, by omega⟩
    show F5_7B _ _ _ _ _ _ _ _ _
    unfold F5_7B
    simp only [rdP_mk, rdC_mk, rdI_mk]
    rw [br_dec, br_dec]
    refine ⟨fun q1 => ⟨fun q2 => ?_, fun _ => hK w s hok h⟩, fun _ => hK w s hok h⟩
    have e1 : IntKind.wrap .i64 ((j : Int) + 1) = ((j + 1 : Nat) : Int) := by rw [wrap_i64 (by omega) (by omega)]; omega
    unfold F5_4
    simp only [rdP_mk, rdC_mk, rdI_mk, e1]
    rw [br_dec]
    refine ⟨fun hp => ?_, fun _ _g => ?_⟩
    · obtain ⟨v, hv⟩ : ∃ v, O[j]? = some v := ⟨O[j]'(by omega), by simp⟩
      have hvr := hOr v (List.mem_of_getElem? hv)
      have hO1 : Rd w oa (inV .u16 O) := h.rd_old hO
      obtain ⟨od, hoa⟩ := hO1.some (by rw [inV_length]; omega)
      have hO2 : Rd w (some od) (inV .u16 O) := by rw [← hoa]; exact hO1
      rw [hoa]
      refine ixS_to rfl (by omega) ?_
      rw [Nat.mul_one]
      refine ldI_c (hO2.at (inV_at hv)) ?_
      have hz : ∀ {n : Int} {A : Prop}, n ≠ 0 → A → nz n A := fun {n} {A} hn ha => by
        unfold nz
        first | exact ⟨hn, ha⟩ | (split <;> first | exact absurd rfl hn | exact ha) | (rw [if_neg hn]; exact ha)
      refine hz (by omega) ?_
      have e2 : IntKind.wrap .i64 v = v := wrap_i64 (by omega) (by omega)
      rw [e2]
      obtain ⟨p, hpv⟩ : ∃ p : Nat, Int.tmod v (Cs.length : Int) = (p : Int) ∧ p < Cs.length := by
        refine ⟨(v % (Cs.length : Int)).toNat, ?_, ?_⟩
        · rw [Int.tmod_eq_emod_of_nonneg hvr.1]
          have := Int.emod_nonneg v (b := (Cs.length : Int)) (by omega)
          omega
        · have := Int.emod_nonneg v (b := (Cs.length : Int)) (by omega)
          have := Int.emod_lt_of_pos v (b := (Cs.length : Int)) (by omega)
          omega
      obtain ⟨x, hx⟩ : ∃ x, Cs[p]? = some x := ⟨Cs[p]'hpv.2, by simp⟩
      refine ld_ck h (q := 1) rfl hpv.1 hx fun ad ha => ?_
      refine ldR35_of ha ?_
      refine cl (put_one hc hin hCs (List.mem_of_getElem? hx) hok h) ?_
      rintro _ w2 ⟨⟨n, rfl⟩, hok2, _, h2⟩
      refine ⟨_, rfl, fun _g => ?_⟩
      rw [← hoa]
      exact ih (j + 1) k _ w2 (by omega) hok2 h2 (by omega)
    · exact ih (j + 1) k _ w (by omega) hok h (by omega)
end
end Go.Proofs.Ytaflmpbeonoilaa
namespace Go.Proofs.Ytaflmpbeonoilaa
open Go Go.Sh Go.RowKit
def goodE (e : Em) : Bool := decide (0 < e.m.d.length) && decide (e.m.d.length ≤ 500)
structure EmRaw (W : World) (e : Em) : Prop where
  rd : Rd W e.a (inV .u8 e.m.d)
  cap : e.m.d.length ≤ e.c
  by8 : ∀ v ∈ e.m.d, 0 ≤ v ∧ v < 256
  st : 0 ≤ e.m.st ∧ e.m.st < 65536
theorem EmRaw.in {W : World} {e : Em} (h : EmRaw W e) (hg : goodE e = true) : EmIn W e := by
  unfold goodE at hg
  rw [Bool.and_eq_true, decide_eq_true_eq, decide_eq_true_eq] at hg
  exact ⟨⟨fun hn => by rw [hn] at hg; simp at hg, hg.2, h.st⟩, h.rd, h.cap, h.by8⟩
def sumE (R : List Em) : Nat := (R.map fun e => e.m.d.length).sum
theorem sumE_snoc (R : List Em) (e : Em) : sumE (R ++ [e]) = sumE R + e.m.d.length := by unfold sumE; simp
theorem sumE_le : ∀ (R : List Em), (∀ e ∈ R, goodE e = true) → sumE R ≤ 500 * R.length
  | [], _ => by simp [sumE]
  | e :: R, h => by
    have := sumE_le R fun x hx => h x (by simp [hx])
    have := h e (by simp)
    unfold goodE at this
    rw [Bool.and_eq_true, decide_eq_true_eq, decide_eq_true_eq] at this
    unfold sumE at *
    simp only [List.map_cons, List.sum_cons, List.length_cons]
    omega
section
variable {W w : World} {L Z : List HP} {tb sz : Nat} {xa la oa : Option Addr} {xc lc oc : Nat} {R ems : List Em} {s : St}
theorem c5_10 {K0 : Value → Value → Value → Value → Value → Value → World → Prop} {x1 x2 : Int} {on : Nat} (hl : ems.length ≤ 9223372036854775807) (hE : Rd W la (msV ems)) (hin : ∀ e ∈ ems, EmRaw W e)
    (hK : ∀ w' a c, Hs W (slP 39 5 a ((ems.take 40).filter goodE).length c (msV ((ems.take 40).filter goodE)) :: Z) w' → K0 (.int .u32 x1) (.int .u8 x2) (.slice oa on oc) (.pointer (some ⟨tb, 0, none⟩)) (.slice a ((ems.take 40).filter goodE).length c) (.int .i64 (sumE ((ems.take 40).filter goodE) : Int)) w') :
    ∀ (i j k : Nat) (w : World) (a : Option Addr) (c : Nat) (R : List Em), j + i = 40 → R = (ems.take j).filter goodE → i < k → Hs W (slP 39 5 a R.length c (msV R) :: Z) w →
      F5_10 K0 k (.slice la ems.length lc) (.int .u32 x1) (.int .u8 x2) (.slice oa on oc) (.pointer (some ⟨tb, 0, none⟩)) (.slice a R.length c) (.int .i64 (sumE R : Int)) (.int .i64 (j : Int)) w := by
  intro i
  induction i with
  | zero =>
    intro j k w a c R hj hR hk h
    obtain ⟨k, rfl⟩ : ∃ j, k = j + 1 := ⟨k - 1, by omega⟩
    have h40 : j = 40 := by omega
    subst h40
    subst hR
    show F5_10B _ _ _ _ _ _ _ _ _ _ _
    unfold F5_10B
    simp only [rdP_mk, rdC_mk, rdI_mk]
    rw [br_dec, br_dec]
    exact ⟨fun _ => ⟨fun hlt => by exfalso; omega, fun _ => hK w a c h⟩, fun _ => hK w a c h⟩
  | succ i ih =>
    intro j k w a c R hj hR hk h
    obtain ⟨k, rfl⟩ : ∃ j, k = j + 1 := ⟨k - 1, by omega⟩
    show F5_10B _ _ _ _ _ _ _ _ _ _ _
    unfold F5_10B
    simp only [rdP_mk, rdC_mk, rdI_mk]
    rw [br_dec, br_dec]
    refine ⟨fun q1 => ⟨fun _ => ?_, fun hge => by exfalso; omega⟩, fun q1 => by
      have : ems.take 40 = ems.take j := by rw [List.take_of_length_le (by omega), List.take_of_length_le (by omega)]
      rw [this, ← hR] at hK
      exact hK w a c h⟩
    obtain ⟨e, he⟩ : ∃ e, ems[j]? = some e := ⟨ems[j]'(by omega), by simp⟩
    have hei := hin e (List.mem_of_getElem? he)
    have hRl : R.length ≤ 40 := by
      rw [hR]
      have := List.length_filter_le goodE (ems.take j)
      rw [List.length_take] at this
      omega
    have hRg : ∀ e ∈ R, goodE e = true := fun x hx => by rw [hR] at hx; exact (List.mem_filter.1 hx).2
    have hsum := sumE_le R hRg
    have etk : ems.take (j + 1) = ems.take j ++ [e] := by rw [List.take_add_one, he]; rfl
    have e1 : IntKind.wrap .i64 ((j : Int) + 1) = ((j + 1 : Nat) : Int) := by rw [wrap_i64 (by omega) (by omega)]; omega
    have ixE : ∀ {N : List HP} {w' : World} {K : Addr → Prop}, Hs W N w' → (∀ ad, At w' ad e.rc.l → K ad) → ixS 5 la ems.length (j : Int) K := fun {N} {w'} {K} h' hk' => by
      have hr := h'.rd_old hE
      obtain ⟨rd, hra⟩ := hr.some (by rw [msV_length]; omega)
      rw [hra] at hr ⊢
      exact ixS_to rfl (by omega) (hk' _ (hr.atI (f := fun e : Em => e.rc.l) (m := 5) (i := j) (fun _ => rfl) he))
    unfold F5_8
    simp only [rdP_mk, rdC_mk, rdI_mk, e1]
    refine ixE h fun ad ha => ?_
    refine ldC_c (ha 4 _ rfl) ?_
    have three : ∀ {b : Bool} {Kn : Value → Value → Value → Value → Value → Value → Value → Value → World → Prop}, b = goodE e → (∀ a' c' R' w', R'.length ≤ 41 → F5_10 K0 k (.slice la ems.length lc) (.int .u32 x1) (.int .u8 x2) (.slice oa on oc) (.pointer (some ⟨tb, 0, none⟩)) (.slice a' R'.length c') (.int .i64 (sumE R' : Int)) (.int .i64 ((j + 1 : Nat) : Int)) w' → Kn (.slice la ems.length lc) (.int .u32 x1) (.int .u8 x2) (.slice oa on oc) (.pointer (some ⟨tb, 0, none⟩)) (.slice a' R'.length c') (.int .i64 (sumE R' : Int)) (.int .i64 (j : Int)) w') →
        F5_3 Kn (.slice la ems.length lc) (.int .u32 x1) (.int .u8 x2) (.slice oa on oc) (.pointer (some ⟨tb, 0, none⟩)) (.slice a R.length c) (.int .i64 (sumE R : Int)) (.int .i64 (j : Int)) (.bool b) w := by
      intro b Kn hb hk1
      unfold F5_3
      simp only [rdP_mk, rdC_mk, rdI_mk, rdB_mk]
      rw [br_iff]
      refine ⟨fun hbt => ?_, fun hbf => ?_⟩
      · have hg : goodE e = true := by rw [← hb]; exact hbt
        have hgl : e.m.d.length ≤ 500 := by
          unfold goodE at hg
          rw [Bool.and_eq_true, decide_eq_true_eq, decide_eq_true_eq] at hg
          exact hg.2
        refine ixE h fun ad ha => ?_
        refine ldR38_of ha ?_
        unfold alc
        refine h.push (ty := 49) E49 0 rfl (news := e.rc.c) rfl (R38_one _) (by omega) (by omega) fun a' c' w2 h2 => ?_
        have h2 : Hs W (slP 39 5 a' (R.length + 1) c' (msV R ++ e.rc.l) :: Z) w2 := h2
        have eR : R ++ [e] = (ems.take (j + 1)).filter goodE := by rw [etk, List.filter_append, hR]; simp [hg]
        have el : R.length + 1 = (R ++ [e]).length := by simp
        have em : msV R ++ e.rc.l = msV (R ++ [e]) := (msV_snoc R e).symm
        rw [em, el] at h2
        rw [el]
        refine ixE h2 fun ad ha => ?_
        refine ldC_c (ha 4 _ rfl) ?_
        have e2 : IntKind.wrap .i64 ((sumE R : Int) + (e.rc.f4n : Int)) = (sumE (R ++ [e]) : Int) := by
          have : e.rc.f4n = e.m.d.length := rfl
          rw [sumE_snoc, this, wrap_i64 (by omega) (by omega)]; omega
        rw [e2]
        exact hk1 a' c' (R ++ [e]) w2 (by simp; omega) (ih (j + 1) k w2 a' c' (R ++ [e]) (by omega) eR (by omega) h2)
      · have hg : goodE e = false := by rw [← hb]; exact hbf
        have eR : R = (ems.take (j + 1)).filter goodE := by rw [etk, List.filter_append, hR]; simp [hg]
        exact hk1 a c R w (by omega) (ih (j + 1) k w a c R (by omega) eR (by omega) h)
    have wrapk : ∀ {w' : World} {a' : Option Addr} {c' : Nat} {R' : List Em}, F5_10 K0 k (.slice la ems.length lc) (.int .u32 x1) (.int .u8 x2) (.slice oa on oc) (.pointer (some ⟨tb, 0, none⟩)) (.slice a' R'.length c') (.int .i64 (sumE R' : Int)) (.int .i64 ((j + 1 : Nat) : Int)) w' → F5_10 K0 k (.slice la ems.length lc) (.int .u32 x1) (.int .u8 x2) (.slice oa on oc) (.pointer (some ⟨tb, 0, none⟩)) (.slice a' R'.length c') (.int .i64 (sumE R' : Int)) (.int .i64 (IntKind.wrap .i64 ((j : Int) + 1))) w' := fun h' => by rw [e1]; exact h'
    show br (decide (((e.m.d.length : Nat) : Int) > 0)) _ _
    rw [br_dec]
    refine ⟨fun hp => ?_, fun hp => ?_⟩
    · refine ixE h fun ad ha => ?_
      refine ldC_c (ha 4 _ rfl) ?_
      refine three ?_ fun a' c' R' w' _ h' _g => ?_
      · show decide (((e.m.d.length : Nat) : Int) ≤ 500) = goodE e
        unfold goodE
        rw [decide_eq_true (show 0 < e.m.d.length by omega), Bool.true_and]
        exact decide_eq_decide.2 (by omega)
      · simp only [rdP_mk, rdC_mk, rdI_mk]
        intro _
        exact wrapk h'
    · refine three ?_ fun a' c' R' w' _ h' _g => ?_
      · unfold goodE
        rw [decide_eq_false (show ¬ 0 < e.m.d.length by omega), Bool.false_and]
      · simp only [rdP_mk, rdC_mk, rdI_mk]
        intro _
        exact wrapk h'
theorem OkC.new (B : List Bk) : OkC B (newS 4 1073741824) := by
  refine ⟨OkL.new (by omega) (by omega), (fun r hr => by cases hr), [], newS_ok _ _, (fun x hx => by cases hx), rfl, rfl, (fun k hk => by cases hk), (fun r hr => by cases hr), (fun k _ ha => ?_), by simp [newS], (fun st h1 h2 => ?_), (fun st _ _ => by simp)⟩
  · exfalso
    obtain ⟨t, ht⟩ := List.exists_mem_of_ne_nil _ (Bk.row_ne (k := k))
    have := ha t ht
    simp [newS, keys] at this
  · show (List.replicate 4 (0 : Int)).getD st.toNat 0 = _
    rw [List.getD_eq_getElem?_getD, List.getElem?_replicate, if_pos (by omega)]
    rfl
theorem c5 {t sv : Int} {O : List Int} (ht : 0 ≤ t ∧ t < 4294967296) (hsv : 0 ≤ sv ∧ sv < 256) (hl : ems.length ≤ 9223372036854775807) (hE : Rd w la (msV ems)) (hin : ∀ e ∈ ems, EmRaw w e) (hO : Rd w oa (inV .u16 O)) (hOr : ∀ v ∈ O, 0 ≤ v ∧ v < 65536) :
    Calls Try.prog 5 #[.slice la ems.length lc, .int .u32 t, .int .u8 sv, .slice oa O.length oc] w (rt fun v w' => v = .bool true ∧ Same w w') := by
  refine F5_ok ?_
  unfold F5
  simp only [rdC_mk, rdI_mk, rdP_mk]
  refine cl (c9 (n := 4) (n2 := 1073741824) (by omega) (by omega) (Hs.start w)) ?_
  rintro _ w2 ⟨tb, rfl, h2⟩
  refine ⟨_, _, rfl, ?_⟩
  have e0 : ((0 : Int) != 0) = false := rfl
  rw [e0, br_false]
  simp only [Option.isNone_some, br_false]
  refine cl (c10 w2) ?_
  rintro _ w6 ⟨rfl, s6⟩
  refine ⟨_, rfl, ?_⟩
  have h6 := h2.same s6
  simp only [Bool.not_true, br_false]
  unfold F5_11
  simp only [rdC_mk, rdI_mk, rdP_mk]
  obtain ⟨R, hR⟩ : ∃ R, R = (ems.take 40).filter goodE := ⟨_, rfl⟩
  have hRl : R.length ≤ 40 := by
    rw [hR]
    have := List.length_filter_le goodE (ems.take 40)
    rw [List.length_take] at this
    omega
  have hRin : ∀ e ∈ R, EmIn w e := fun e he => by
    rw [hR] at he
    obtain ⟨h1, h2⟩ := List.mem_filter.1 he
    exact (hin e ((List.take_subset _ _) h1)).in h2
  have h7 := h6.nil 39 5
  refine ⟨41, c5_10 (Z := [tabP tb (tot (newS 4 1073741824)) (newS 4 1073741824)]) hl hE hin (fun w7 ra rc h8 => ?_) 40 0 _ w6 none 0 [] (by omega) (by simp) (by omega) h7⟩
  rw [← hR] at h8 ⊢
  intro _g
  simp only [rdC_mk, rdI_mk, rdP_mk]
  obtain ⟨sz, hsz, hs⟩ : ∃ sz : Nat, IntKind.wrap .i64 (1 + Int.tmod (IntKind.wrap .i64 sv) 7) = (sz : Int) ∧ (1 ≤ sz ∧ sz ≤ 7) := by
    have h1 : IntKind.wrap .i64 sv = sv := wrap_i64 (by omega) (by omega)
    rw [h1, Int.tmod_eq_emod_of_nonneg hsv.1]
    refine ⟨(1 + sv % 7).toNat, ?_, by omega⟩
    rw [wrap_i64 (by omega) (by omega)]; omega
  rw [hsz]
  have hc := cutB_cut (t := t) hs (fun e he => (hRin e he).toEmOk) ht hRl
  obtain ⟨B, hB⟩ : ∃ B, B = cutB sz R t [0, 0, 0, 0] := ⟨_, rfl⟩
  obtain ⟨Cs, hCs⟩ : ∃ Cs, Cs = B.flatMap Bk.chs := ⟨_, rfl⟩
  rw [← hB] at hc
  have hcin : ∀ x ∈ Cs, CkIn w x := by rw [hCs, hB]; exact cutB_in hs R t _ hRin
  have hCl : Cs.length ≤ 100000 := by
    have h1 : Cs.length = (B.flatMap Bk.row).length := by
      rw [hCs, List.length_flatMap, List.length_flatMap]
      congr 1
      refine List.map_congr_left fun k hk => ?_
      unfold Bk.row
      rw [numsN_length, (hc.ok k hk).len]
    have := hc.cnt
    omega
  refine cl (c17 (M := slP 39 5 ra R.length rc (msV R) :: [tabP tb (tot (newS 4 1073741824)) (newS 4 1073741824)]) hs hRl ht hRin (fun w' h' => h'.rd 0 rfl) h8) ?_
  rintro _ w9 ⟨ca, cc, rfl, h9⟩
  rw [← hB, ← hCs] at h9 ⊢
  refine ⟨_, _, _, rfl, ?_⟩
  have h10 : Hs w (tabP tb (tot (newS 4 1073741824)) (newS 4 1073741824) :: slP 36 15 ca Cs.length cc (rV Cs) :: slP 39 5 ra R.length rc (msV R) :: []) w9 := h9.perm (List.perm_append_comm (l₁ := [_, _]) (l₂ := [_]))
  refine ⟨2002, c5_7 hc hcin hCs hCl hO hOr (fun w11 s1 hok1 h11 _g => ?_) 2001 0 _ _ w9 (by omega) (OkC.new B) h10 (by omega)⟩
  simp only [rdC_mk, rdI_mk, rdP_mk]
  refine ⟨Cs.length + 1, c5_5 hc hcin hCs hCl (fun w12 s2 hok2 hkn h12 _g => ?_) Cs.length 0 _ s1 w11 (by omega) hok1 (by simp) h11 (by omega)⟩
  simp only [rdC_mk, rdI_mk, rdP_mk]
  obtain ⟨T, hT⟩ := hok2.inv
  have hall : ∀ k ∈ B, ∀ u ∈ k.row, Kn s2 u := by
    intro k hk u hu
    obtain ⟨i, hi, rfl⟩ := Bk.mem_row.1 hu
    obtain ⟨x, hx⟩ := (hc.ok k hk).at hi
    have := hkn x (by rw [hCs]; exact List.mem_flatMap.2 ⟨k, hk, List.mem_of_getElem? hx⟩)
    rw [(hc.ok k hk).tsn i x hx] at this
    exact this
  rw [hB] at hT hall
  obtain ⟨hL, hg⟩ := good_end hs (fun e he => (hRin e he).toEmOk) ht hRl hT hok2.quiet hall
  obtain ⟨hsum, hlen⟩ := good_sum hg
  have htot : tot s2 = sumE R := by
    unfold tot sumE
    rw [hL, hsum]
    simp [szL]
  refine clr (c18s h12) ⟨_, rfl, ?_⟩
  have e1 : ((tot s2 : Int) != (sumE R : Int)) = false := by rw [htot]; simp
  rw [e1, br_false]
  refine clr (c16s h12) ⟨_, rfl, ?_⟩
  have e2 : ((s2.M.length : Int) != (R.length : Int)) = false := by rw [hlen]; simp
  rw [e2, br_false]
  refine cl (c19s hok2.okl.toOkB h12) ?_
  rintro _ w13 ⟨a13, c13, rfl, h13⟩
  refine ⟨_, _, _, rfl, ?_⟩
  have e3 : (((srt (keys s2.L)).length : Int) != 0) = false := by rw [srt_len, hL]; rfl
  rw [e3, br_false]
  unfold F5_9
  simp only [rdC_mk, rdP_mk]
  have h14 : Hs w (tabP tb (tot s2) s2 :: slP 39 5 ra R.length rc (msV R) :: []) w13 := (h13.erase 2).erase 0
  refine ⟨s2.M.length + 1, c5_6 (n := 4) (lim := 0) (fun w' hs' _g => ?_) s2.M s2 R _ w13 ra rc rfl hok2.okl.toOkB hL hg (by omega) hRin (by omega) h14⟩
  simp only [rdB_mk]
  intro _ _
  exact ⟨by first | rfl | trivial, hs'⟩
end
end Go.Proofs.Ytaflmpbeonoilaa
