/-
  Messages that are taken, and those that were cut (plain).
-/
import Derived.Test.YtaflmpbeonoilaaRmTd
import Derived.Laws.Strings
namespace Go.Proofs.Ytaflmpbeonoilaa
open Go Go.Sh Go.RowKit
theorem str_inj {a b : List Int} (ha : ∀ x ∈ a, 0 ≤ x ∧ x < 256) (hb : ∀ x ∈ b, 0 ≤ x ∧ x < 256) : (ByteArray.toList (strOf a) == ByteArray.toList (strOf b)) = decide (a = b) := by
  have h1 : ∀ l : List Int, ByteArray.toList (strOf l) = l.map fun x => UInt8.ofNat x.toNat := fun l => by
    unfold strOf
    rw [ByteArray.toList_eq]
  rw [h1, h1, Bool.eq_iff_iff, beq_iff_eq, decide_eq_true_eq]
  constructor
  · intro h
    refine List.ext_getElem? fun i => ?_
    have := congrArg (·[i]?) h
    simp only [List.getElem?_map] at this
    cases hai : a[i]? with
    | none =>
      rw [hai] at this
      cases hbi : b[i]? with
      | none => rfl
      | some y => rw [hbi] at this; cases this
    | some x =>
      rw [hai] at this
      cases hbi : b[i]? with
      | none => rw [hbi] at this; cases this
      | some y =>
        rw [hbi] at this
        simp only [Option.map_some, Option.some.injEq] at this
        have hx := ha x (List.mem_of_getElem? hai)
        have hy := hb y (List.mem_of_getElem? hbi)
        have := congrArg UInt8.toNat this
        simp only [UInt8.toNat_ofNat'] at this
        congr 1
        omega
  · intro h; rw [h]
abbrev Ky := Int × Bool × Int × List Int
def keyE (e : Em) : Int × Bool × Int × List Int := (e.m.st % 4, e.m.un, e.m.pr, e.m.d)
def keyM (m : Ms) : Int × Bool × Int × List Int := (m.st, m.un, m.pr, m.d)
def mtP (m : Ms) (e : Em) : Bool := e.m.st % 4 == m.st && (e.m.un == m.un && (!m.un || (e.m.pr == m.pr && decide (e.m.d = m.d))))
def ordE (st : Int) (e : Em) : Bool := !e.m.un && e.m.st % 4 == st
def ordM (st : Int) (m : Ms) : Bool := !m.un && m.st == st
structure Good (R : List Em) (M : List Ms) : Prop where
  perm : (R.map keyE).Perm (M.map keyM)
  ord : ∀ st : Int, 0 ≤ st → st < 4 → (R.filter (ordE st)).map keyE = (M.filter (ordM st)).map keyM
theorem filter_idx {α : Type} {p : α → Bool} : ∀ {l : List α} {i : Nat} {x : α}, l.findIdx? p = some i → l[i]? = some x → l.filter p = x :: (l.eraseIdx i).filter p
  | [], i, x, h, _ => by simp at h
  | y :: l, i, x, h, hx => by
    rw [List.findIdx?_cons] at h
    by_cases hy : p y = true
    · rw [if_pos hy] at h
      cases h
      simp only [List.getElem?_cons_zero, Option.some.injEq] at hx
      subst hx
      rw [List.filter_cons, if_pos hy]; rfl
    · rw [if_neg hy] at h
      obtain ⟨j, hj, rfl⟩ := Option.map_eq_some_iff.1 h
      rw [List.getElem?_cons_succ] at hx
      rw [List.filter_cons, if_neg hy, List.eraseIdx_cons_succ, List.filter_cons, if_neg hy]
      exact filter_idx hj hx
theorem filter_era {α : Type} {p : α → Bool} {l : List α} {i : Nat} {x : α} (hx : l[i]? = some x) (hp : p x = false) : (l.eraseIdx i).filter p = l.filter p := by
  rw [List.eraseIdx_eq_take_drop_succ]
  conv => rhs; rw [split_of hx]
  rw [List.filter_append, List.filter_append, List.filter_cons, if_neg (by rw [hp]; simp)]
theorem good_step {R : List Em} {m : Ms} {M : List Ms} (h : Good R (m :: M)) : ∃ i e, R.findIdx? (mtP m) = some i ∧ R[i]? = some e ∧ e.m.pr = m.pr ∧ e.m.d = m.d ∧ Good (R.eraseIdx i) M := by
  have hm : keyM m ∈ R.map keyE := h.perm.mem_iff.2 (by simp)
  obtain ⟨e0, he0, hk0⟩ := List.mem_map.1 hm
  unfold keyE keyM at hk0
  simp only [Prod.mk.injEq] at hk0
  obtain ⟨k1, k2, k3, k4⟩ := hk0
  have hmt : mtP m e0 = true := by unfold mtP; rw [k1, k2, k3, k4]; simp
  have hst : 0 ≤ m.st ∧ m.st < 4 := by omega
  cases hf : R.findIdx? (mtP m) with
  | none => exact absurd hmt (by have := List.findIdx?_eq_none_iff.1 hf e0 he0; rw [this]; simp)
  | some i =>
    obtain ⟨hlt, hp, _⟩ := List.findIdx?_eq_some_iff_getElem.1 hf
    obtain ⟨e, he⟩ : ∃ e, R[i]? = some e := ⟨R[i], by simp [hlt]⟩
    have hee : R[i] = e := (List.getElem?_eq_some_iff.1 he).2
    rw [hee] at hp
    have hpe := hp
    unfold mtP at hpe
    rw [Bool.and_eq_true, Bool.and_eq_true, beq_iff_eq, beq_iff_eq] at hpe
    obtain ⟨p1, p2, p3⟩ := hpe
    have hkey : keyE e = keyM m := by
      cases hu : m.un with
      | true =>
        rw [hu] at p3
        simp only [Bool.not_true, Bool.false_or, Bool.and_eq_true, beq_iff_eq, decide_eq_true_eq] at p3
        unfold keyE keyM
        rw [p1, p2, p3.1, p3.2]
      | false =>
        have ho := h.ord m.st hst.1 hst.2
        have hfun : R.filter (ordE m.st) = R.filter (mtP m) := by
          refine List.filter_congr fun x _ => ?_
          unfold ordE mtP
          rw [hu]
          cases x.m.un <;> simp
        rw [hfun, filter_idx hf he, List.filter_cons] at ho
        have : ordM m.st m = true := by unfold ordM; rw [hu]; simp
        rw [if_pos this] at ho
        simp only [List.map_cons, List.cons.injEq] at ho
        exact ho.1
    have hk := hkey
    unfold keyE keyM at hk
    simp only [Prod.mk.injEq] at hk
    refine ⟨i, e, rfl, he, hk.2.2.1, hk.2.2.2, ⟨?_, fun st q1 q2 => ?_⟩⟩
    · have hpR : (R.map keyE).Perm (keyE e :: (R.eraseIdx i).map keyE) := (perm_out he).map keyE
      have := hpR.symm.trans h.perm
      rw [List.map_cons, hkey] at this
      exact (List.perm_cons _).1 this
    · have ho := h.ord st q1 q2
      by_cases hoe : ordE st e = true
      · have hom : ordM st m = true := by
          unfold ordE at hoe; unfold ordM
          rw [← p2, ← p1]; exact hoe
        rw [List.filter_cons, if_pos hom] at ho
        have hu : m.un = false := by unfold ordM at hom; simp at hom; exact hom.1
        have hst' : m.st = st := by unfold ordM at hom; simp at hom; exact hom.2
        have hfun : ∀ l : List Em, l.filter (ordE st) = l.filter (mtP m) := fun l => by
          refine List.filter_congr fun x _ => ?_
          unfold ordE mtP
          rw [hu, hst']
          cases x.m.un <;> simp
        rw [hfun, filter_idx hf he] at ho
        simp only [List.map_cons, List.cons.injEq] at ho
        rw [hfun]; exact ho.2
      · have hoe' : ordE st e = false := by simpa using hoe
        have hom : ordM st m = false := by
          unfold ordE at hoe'; unfold ordM
          rw [← p2, ← p1]; exact hoe'
        rw [List.filter_cons, if_neg (by rw [hom]; simp)] at ho
        rw [filter_era he hoe']; exact ho
theorem good_nil {R : List Em} (h : Good R []) : R = [] := by
  have := h.perm.length_eq
  simp at this
  exact this
section
variable {B T : List Bk} {s : St} {sz : Nat} {r : List Em} {t : Int}
theorem cutB_key (hs : 1 ≤ sz ∧ sz ≤ 7) : ∀ (r : List Em) (t : Int) (nx : List Int), (cutB sz r t nx).map (fun k => keyM k.msg) = r.map keyE
  | [], _, _ => rfl
  | e :: r, t, nx => by
    unfold cutB
    rw [List.map_cons, List.map_cons, cutB_key hs r]
    congr 1
    unfold keyM keyE Bk.msg
    simp only
    rw [mkBk_d hs]
    rfl
theorem filter_key {α β γ : Type} {f : α → γ} {g : β → γ} {p : γ → Bool} : ∀ {a : List α} {b : List β}, a.map f = b.map g → (a.filter fun x => p (f x)).map f = (b.filter fun x => p (g x)).map g := by
  intro a b h
  have h1 : ∀ {δ : Type} (q : δ → γ) (l : List δ), (l.filter fun x => p (q x)).map q = (l.map q).filter p := fun q l => by rw [List.filter_map]; rfl
  rw [h1, h1, h]
theorem good_end (hs : 1 ≤ sz ∧ sz ≤ 7) (hr : ∀ e ∈ r, EmOk e) (ht : 0 ≤ t ∧ t < 4294967296) (hl : r.length ≤ 40) (h : InvT (cutB sz r t [0, 0, 0, 0]) s T) (hq : Quiet s) (hall : ∀ k ∈ cutB sz r t [0, 0, 0, 0], ∀ t ∈ k.row, Kn s t) : s.L = [] ∧ Good r s.M := by
  have hc := cutB_cut hs hr ht hl
  obtain ⟨h1, h2, h3, h4⟩ := inv_end hc h hq hall
  have hkey := cutB_key hs r t [0, 0, 0, 0]
  have hperm : T.Perm (cutB sz r t [0, 0, 0, 0]) := (List.perm_ext_iff_of_nodup h2 hc.nd).2 h3
  refine ⟨h1, ?_, fun st q1 q2 => ?_⟩
  · rw [h.M, List.map_map, ← hkey]
    exact (hperm.map _).symm
  · have e1 : (s.M.filter (ordM st)).map keyM = (T.filter (ordB st)).map fun k => keyM k.msg := by
      rw [h.M, List.filter_map, List.map_map]
      rfl
    rw [e1, h4 st q1 q2]
    have := filter_key (f := fun k : Bk => keyM k.msg) (g := keyE) (p := fun y => !y.2.1 && y.1 == st) hkey
    exact this.symm
theorem good_sum {R : List Em} {M : List Ms} (h : Good R M) : szM M = (R.map fun e => e.m.d.length).sum ∧ M.length = R.length := by
  have hp := h.perm
  have e1 : (R.map fun e => e.m.d.length) = (R.map keyE).map fun y => y.2.2.2.length := by rw [List.map_map]; rfl
  have e2 : (M.map fun m => m.d.length) = (M.map keyM).map fun y => y.2.2.2.length := by rw [List.map_map]; rfl
  refine ⟨?_, ?_⟩
  · unfold szM
    rw [e1, e2]
    exact ((hp.map _).sum_nat).symm
  · have := hp.length_eq
    simp at this
    omega
end
end Go.Proofs.Ytaflmpbeonoilaa
namespace Go.Proofs.Ytaflmpbeonoilaa
open Go Go.Sh Go.RowKit
theorem run_b49a (w : World) : Sem.run Try.prog (Instr.buildSlice 49 0 #[]) w = .ok (.slice (some ⟨w.heap.size, 0, none⟩) 0 0) (w.alloc (.cells #[] 39)) := by kernel_rfl
def atv (p : Em → Bool) (R : List Em) (j : Nat) : Int := match (R.drop j).findIdx? p with | some q => ((j + q : Nat) : Int) | none => -1
theorem msV_one (R : List Em) : ∀ u ∈ msV R, u.oneCell' = true := fun u hu => by
  obtain ⟨e, _, hu⟩ := List.mem_flatMap.1 hu
  exact R38_one e.rc u (by rw [R38.c_list]; exact hu)
section
variable {W w : World} {L Z : List HP} {tb b7 : Nat} {m : Ms} {a xa : Option Addr} {c xc : Nat} {R : List Em} {s : St} {hd : Int}
theorem ld_em {N : List HP} {q j : Nat} {e : Em} {i : Int} {K : Addr → Prop} (h : Hs W N w) (hq : N[q]? = some (slP 39 5 xa R.length xc (msV R))) (hi : i = (j : Int)) (he : R[j]? = some e) (hk : ∀ ad, At w ad e.rc.l → K ad) : ixS 5 xa R.length i K := by
  have hj := (List.getElem?_eq_some_iff.1 he).1
  have hr := h.rd q hq
  obtain ⟨rd, hra⟩ := hr.some (by rw [msV_length]; omega)
  rw [hra] at hr ⊢
  exact ixS_to hi hj (hk _ (hr.atI (f := fun e : Em => e.rc.l) (m := 5) (i := j) (fun _ => rfl) he))
theorem c5_1 {K8 : Value → Value → Value → Value → World → Prop} (hl : R.length ≤ 1000) (hin : ∀ e ∈ R, EmIn W e) (hmb : ∀ v ∈ m.d, 0 ≤ v ∧ v < 256)
    (hK : ∀ w', Hs W (pt b7 (.cells (m.rc a c).c 39 (0, 0)) :: tabP tb hd s :: slP 5 1 a m.d.length c (inV .u8 m.d) :: slP 39 5 xa R.length xc (msV R) :: L) w' → K8 (.pointer (some ⟨tb, 0, none⟩)) (.slice xa R.length xc) (.pointer (some ⟨b7, 0, none⟩)) (.int .i64 (atv (mtP m) R 0)) w') :
    ∀ (j k : Nat) (w : World) (y : Int), y = atv (mtP m) R j → j ≤ R.length → j < k → Hs W (pt b7 (.cells (m.rc a c).c 39 (0, 0)) :: tabP tb hd s :: slP 5 1 a m.d.length c (inV .u8 m.d) :: slP 39 5 xa R.length xc (msV R) :: L) w →
      F5_1 K8 k (.pointer (some ⟨tb, 0, none⟩)) (.slice xa R.length xc) (.pointer (some ⟨b7, 0, none⟩)) (.int .i64 y) (.int .i64 ((j : Int) - 1)) w := by
  intro j
  induction j with
  | zero =>
    intro k w y hy hj hk h
    obtain ⟨k, rfl⟩ : ∃ j, k = j + 1 := ⟨k - 1, by omega⟩
    subst hy
    show F5_1B _ _ _ _ _ _ _ _
    unfold F5_1B
    simp only [rdP_mk, rdC_mk, rdI_mk, rdA_mk, add_mk]
    rw [br_dec]
    exact ⟨fun hlt => by exfalso; omega, fun _ => hK w h⟩
  | succ j ih =>
    intro k w y hy hj hk h
    subst hy
    obtain ⟨k, rfl⟩ : ∃ j, k = j + 1 := ⟨k - 1, by omega⟩
    obtain ⟨e, he⟩ : ∃ e, R[j]? = some e := ⟨R[j]'(by omega), by simp⟩
    have hei := hin e (List.mem_of_getElem? he)
    have hdr : R.drop j = e :: R.drop (j + 1) := by
      rw [List.drop_eq_getElem_cons (by omega)]
      congr 1
      exact (List.getElem?_eq_some_iff.1 he).2
    have yes : mtP m e = true → atv (mtP m) R j = (j : Int) := fun hm => by unfold atv; rw [hdr, List.findIdx?_cons, if_pos hm]; simp
    have no : mtP m e = false → atv (mtP m) R j = atv (mtP m) R (j + 1) := fun hm => by
      unfold atv
      rw [hdr, List.findIdx?_cons, if_neg (by rw [hm]; simp)]
      cases (R.drop (j + 1)).findIdx? (mtP m) with
      | none => rfl
      | some q => show ((j + (q + 1) : Nat) : Int) = _; congr 1; omega
    show F5_1B _ _ _ _ _ _ _ _
    unfold F5_1B
    have e1 : ((j + 1 : Nat) : Int) - 1 = (j : Int) := by omega
    have e2 : IntKind.wrap .i64 ((j : Int) - 1) = (j : Int) - 1 := wrap_i64 (by omega) (by omega)
    simp only [rdP_mk, rdC_mk, rdI_mk, rdA_mk, add_mk, e1, e2]
    rw [br_dec]
    refine ⟨fun _ => ?_, fun hge => by exfalso; omega⟩
    refine h.drw fun w1 h1 => ?_
    have goY : mtP m e = true → ∀ w', Hs W (pt b7 (.cells (m.rc a c).c 39 (0, 0)) :: tabP tb hd s :: slP 5 1 a m.d.length c (inV .u8 m.d) :: slP 39 5 xa R.length xc (msV R) :: L) w' → F5_1 K8 k (.pointer (some ⟨tb, 0, none⟩)) (.slice xa R.length xc) (.pointer (some ⟨b7, 0, none⟩)) (.int .i64 (j : Int)) (.int .i64 ((j : Int) - 1)) w' := fun hm w' h' => by
      exact ih k w' _ (yes hm).symm (by omega) (by omega) h'
    have goN : mtP m e = false → ∀ w', Hs W (pt b7 (.cells (m.rc a c).c 39 (0, 0)) :: tabP tb hd s :: slP 5 1 a m.d.length c (inV .u8 m.d) :: slP 39 5 xa R.length xc (msV R) :: L) w' → F5_1 K8 k (.pointer (some ⟨tb, 0, none⟩)) (.slice xa R.length xc) (.pointer (some ⟨b7, 0, none⟩)) (.int .i64 (atv (mtP m) R (j + 1))) (.int .i64 ((j : Int) - 1)) w' := fun hm w' h' => by
      exact ih k w' _ (no hm).symm (by omega) (by omega) h'
    refine ld_em h1 (q := 3) rfl rfl he fun ad ha => ?_
    refine ldI_c (ha 0 _ rfl) (h1.ldI 0 rfl rfl ?_)
    have hmod : Int.tmod e.rc.f0 4 = e.m.st % 4 := Int.tmod_eq_emod_of_nonneg hei.st.1
    rw [hmod]
    show br (e.m.st % 4 == m.st) _ _
    rw [br_iff]
    refine ⟨fun q1 => ?_, fun q1 => ⟨goN (by unfold mtP; rw [q1]; rfl) w1 h1, goN (by unfold mtP; rw [q1]; rfl) w1 h1⟩⟩
    refine ld_em h1 (q := 3) rfl rfl he fun ad ha => ?_
    refine ldB_c (ha 3 _ rfl) (h1.ldB 0 rfl rfl ?_)
    show br (e.m.un == m.un) _ _
    rw [br_iff]
    refine ⟨fun q2 => ?_, fun q2 => ⟨goN (by unfold mtP; rw [q1, q2]; rfl) w1 h1, goN (by unfold mtP; rw [q1, q2]; rfl) w1 h1⟩⟩
    refine h1.ldB 0 rfl rfl ?_
    show br (!m.un) _ _
    rw [br_iff]
    refine ⟨fun q3 => ⟨goY (by unfold mtP; rw [q1, q2, q3]; rfl) w1 h1, goY (by unfold mtP; rw [q1, q2, q3]; rfl) w1 h1⟩, fun q3 => ?_⟩
    refine ld_em h1 (q := 3) rfl rfl he fun ad ha => ?_
    refine ldI_c (ha 2 _ rfl) (h1.ldI 0 rfl rfl ?_)
    show br (e.m.pr == m.pr) _ _
    rw [br_iff]
    refine ⟨fun q4 => ?_, fun q4 => ⟨goN (by unfold mtP; rw [q1, q2, q3, q4]; rfl) w1 h1, goN (by unfold mtP; rw [q1, q2, q3, q4]; rfl) w1 h1⟩⟩
    refine ld_em h1 (q := 3) rfl rfl he fun ad ha => ?_
    refine ldC_c (ha 4 _ rfl) (h1.ldC 0 rfl rfl ?_)
    have hr1 : Rd w1 e.a (inV .u8 e.m.d) := h1.rd_old hei.rd
    have hr2 := h1.rd 2 rfl
    have fin : ∀ {b : Bool}, b = decide (e.m.d = m.d) → br b (F5_1 K8 k (.pointer (some ⟨tb, 0, none⟩)) (.slice xa R.length xc) (.pointer (some ⟨b7, 0, none⟩)) (.int .i64 (j : Int)) (.int .i64 ((j : Int) - 1)) w1) (F5_1 K8 k (.pointer (some ⟨tb, 0, none⟩)) (.slice xa R.length xc) (.pointer (some ⟨b7, 0, none⟩)) (.int .i64 (atv (mtP m) R (j + 1))) (.int .i64 ((j : Int) - 1)) w1) := by
      intro b hb
      rw [br_iff]
      have hmt : mtP m e = b := by unfold mtP; rw [q1, q2, q3, q4, hb]; simp
      exact ⟨fun hbt => goY (by rw [hmt, hbt]) w1 h1, fun hbf => goN (by rw [hmt, hbf]) w1 h1⟩
    refine ⟨⟨_, _, run_str (c := e.c) hr1 hei.by8, Pres.refl _, _, _, run_str (c := c) hr2 hmb, Pres.refl _, fin (str_inj hei.by8 hmb)⟩, ⟨_, _, run_str (c := c) hr2 hmb, Pres.refl _, _, _, run_str (c := e.c) hr1 hei.by8, Pres.refl _, fin (str_inj hei.by8 hmb)⟩⟩
theorem c5_2 {Kn : Value → Value → World → Prop} {i : Nat} (hi : i < R.length) (hl : R.length ≤ 1000) (hK : ∀ w' a' c', Hs W (slP 39 5 a' (R.eraseIdx i).length c' (msV (R.eraseIdx i)) :: L) w' → Kn (.pointer (some ⟨tb, 0, none⟩)) (.slice a' (R.eraseIdx i).length c') w')
    (h : Hs W (slP 39 5 xa R.length xc (msV R) :: L) w) : F5_2 Kn (.pointer (some ⟨tb, 0, none⟩)) (.slice xa R.length xc) (.int .i64 (i : Int)) w := by
  unfold F5_2
  have e1 : IntKind.wrap .i64 ((i : Int) + 1) = ((i + 1 : Nat) : Int) := by rw [wrap_i64 (by omega) (by omega)]; omega
  simp only [rdP_mk, rdC_mk, rdI_mk, e1]
  refine ⟨_, _, _, _, run_b49a w, ?_⟩
  have h1 := h.void 39 5
  refine h1.appHi (ty := 49) E49 0 1 (n := i) rfl rfl (by omega) (msV_one R) (by omega) (by omega) fun a2 c2 w2 h2 => ?_
  refine h2.appLo (ty := 49) E49 0 1 (n := i + 1) rfl rfl (by omega) (msV_one R) (by omega) (by omega) fun a3 c3 w3 h3 => ?_
  have h3 : Hs W (slP 39 5 a3 (0 + i + (R.length - (i + 1))) c3 ([] ++ (msV R).take (i * 5) ++ (msV R).drop ((i + 1) * 5)) :: slP 39 5 xa R.length xc (msV R) :: L) w3 := h3
  have e2 : 0 + i + (R.length - (i + 1)) = (R.eraseIdx i).length := by rw [List.length_eraseIdx_of_lt hi]; omega
  have e3 : [] ++ (msV R).take (i * 5) ++ (msV R).drop ((i + 1) * 5) = msV (R.eraseIdx i) := by
    unfold msV
    rw [List.nil_append, flat_take (f := fun e : Em => e.rc.l) (m := 5) (fun _ => rfl), flat_drop (f := fun e : Em => e.rc.l) (m := 5) (fun _ => rfl), ← List.flatMap_append, List.eraseIdx_eq_take_drop_succ]
  rw [e2, e3] at h3
  rw [e2]
  exact hK w3 a3 c3 (h3.erase 1)
theorem c5_6 {Kr : Value → World → Prop} {n : Nat} {lim : Int} (hKr : ∀ w', Same W w' → Kr (.bool true) w') :
    ∀ (M : List Ms) (s : St) (R : List Em) (k : Nat) (w : World) (xa : Option Addr) (xc : Nat), s.M = M → OkB s → s.L = [] → Good R M → R.length ≤ 1000 → (∀ e ∈ R, EmIn W e) → M.length < k → Hs W (tabP tb (tot s) s :: slP 39 5 xa R.length xc (msV R) :: L) w →
      F5_6 Kr k (.pointer (some ⟨tb, 0, none⟩)) (.slice xa R.length xc) w
  | [], s, R, k, w, xa, xc, hM, hok, hL, hg, hl, hin, hk, h => by
    obtain ⟨k, rfl⟩ : ∃ j, k = j + 1 := ⟨k - 1, by omega⟩
    show F5_6B _ _ _ _ _
    unfold F5_6B
    simp only [rdP_mk, rdC_mk]
    refine cl (c13a hok.tot h) ?_
    rintro _ w2 ⟨r, a, c, rfl, hm⟩
    have hh : s.M.head? = none := by rw [hM]; rfl
    rw [hh] at hm
    obtain ⟨rfl, g⟩ := hm
    refine exR38_of R38.z ⟨_, rfl, ?_⟩
    refine g.alc fun b7 w3 h3 => ?_
    refine h3.stcL 0 rfl rfl fun w4 h4 => ?_
    rw [hh]
    have hR := good_nil hg
    subst hR
    simp only [Option.isSome_none, Bool.not_false, br_true]
    have e0 : ((([] : List Em).length : Int) == 0) = true := rfl
    rw [e0, br_true]
    refine clr (c18s h4.drop) ⟨_, rfl, ?_⟩
    have ht : tot (takeS s) = 0 := by unfold tot takeS; simp only; rw [hL, hM]; rfl
    rw [ht]
    exact hKr w4 h4.old
  | m :: M, s, R, k, w, xa, xc, hM, hok, hL, hg, hl, hin, hk, h => by
    obtain ⟨k, rfl⟩ : ∃ j, k = j + 1 := ⟨k - 1, by omega⟩
    obtain ⟨i, e, hfi, hie, hpr, hde, hg'⟩ := good_step hg
    have hil := (List.getElem?_eq_some_iff.1 hie).1
    have hei := hin e (List.mem_of_getElem? hie)
    have hmb : ∀ v ∈ m.d, 0 ≤ v ∧ v < 256 := by rw [← hde]; exact hei.by8
    show F5_6B _ _ _ _ _
    unfold F5_6B
    simp only [rdP_mk, rdC_mk]
    refine cl (c13a hok.tot h) ?_
    rintro _ w2 ⟨r, a, c, rfl, hm⟩
    have hh : s.M.head? = some m := by rw [hM]; rfl
    rw [hh] at hm
    obtain ⟨rfl, g⟩ := hm
    refine exR38_of (m.rc a c) ⟨_, rfl, ?_⟩
    refine g.alc fun b7 w3 h3 => ?_
    refine h3.stcL 0 rfl rfl fun w4 h4 => ?_
    rw [hh]
    simp only [Option.isSome_some, Bool.not_true, br_false]
    have h4 : Hs W (pt b7 (.cells (m.rc a c).c 39 (0, 0)) :: tabP tb (tot (takeS s)) (takeS s) :: slP 5 1 a m.d.length c (inV .u8 m.d) :: slP 39 5 xa R.length xc (msV R) :: L) w4 := h4
    have e1 : IntKind.wrap .i64 ((R.length : Int) - 1) = (R.length : Int) - 1 := wrap_i64 (by omega) (by omega)
    have e2 : atv (mtP m) R R.length = -1 := by unfold atv; rw [List.drop_length]; rfl
    have e3 : atv (mtP m) R 0 = (i : Int) := by unfold atv; rw [List.drop_zero, hfi]; simp
    rw [e1]
    refine ⟨R.length + 1, c5_1 hl hin hmb (fun w5 h5 _g => ?_) R.length _ w4 _ e2.symm (Nat.le_refl _) (by omega) h4⟩
    simp only [rdP_mk, rdC_mk, rdI_mk, rdA_mk, add_mk, e3]
    refine h5.drw fun w6 h6 => ?_
    rw [br_dec]
    refine ⟨fun hlt => by exfalso; omega, fun _ => ?_⟩
    refine ld_em h6 (q := 3) rfl rfl hie fun ad ha => ?_
    refine ldI_c (ha 2 _ rfl) (h6.ldI 0 rfl rfl ?_)
    have e4 : (e.rc.f2 != (m.rc a c).f2) = false := by
      show (e.m.pr != m.pr) = false
      rw [hpr]; simp
    show br (e.rc.f2 != (m.rc a c).f2) _ _
    rw [e4, br_false]
    refine ld_em h6 (q := 3) rfl rfl hie fun ad ha => ?_
    refine ldC_c (ha 4 _ rfl) (h6.ldC 0 rfl rfl ?_)
    have hr1 : Rd w6 e.a (inV .u8 e.m.d) := h6.rd_old hei.rd
    have hr2 := h6.rd 2 rfl
    have h6' : Hs W (slP 39 5 xa R.length xc (msV R) :: tabP tb (tot (takeS s)) (takeS s) :: L) w6 := ((h6.erase 0).erase 1).perm (List.Perm.swap _ _ _)
    have fin : ∀ {b : Bool} {Kn : Value → Value → World → Prop}, b = decide (e.m.d = m.d) → (∀ a' c' w', F5_6 Kr k (.pointer (some ⟨tb, 0, none⟩)) (.slice a' (R.eraseIdx i).length c') w' → Kn (.pointer (some ⟨tb, 0, none⟩)) (.slice a' (R.eraseIdx i).length c') w') → br (!b) (Kr (.bool false) w6) (F5_2 Kn (.pointer (some ⟨tb, 0, none⟩)) (.slice xa R.length xc) (.int .i64 (i : Int)) w6) := by
      intro b Kn hb hk1
      rw [hde, decide_eq_true rfl] at hb
      subst hb
      simp only [Bool.not_true, br_false]
      refine c5_2 hil hl (fun w7 a' c' h7 => hk1 a' c' w7 ?_) h6'
      have hts : takeS s = { s with M := M } := by unfold takeS; rw [hM]; rfl
      refine c5_6 (n := n) (lim := lim) hKr M (takeS s) (R.eraseIdx i) k w7 a' c' (by rw [hts]) (takeS_ok hok) (by rw [hts]; exact hL) hg' ?_ (fun x hx => hin x ((List.eraseIdx_sublist _ _).subset hx)) (by simp at hk; omega) (h7.perm (List.Perm.swap _ _ _))
      rw [List.length_eraseIdx_of_lt hil]; omega
    refine ⟨⟨_, _, run_str (c := e.c) hr1 hei.by8, Pres.refl _, _, _, run_str (c := c) hr2 hmb, Pres.refl _, fin (str_inj hei.by8 hmb) fun a' c' w' hk' _g => ?_⟩, ⟨_, _, run_str (c := c) hr2 hmb, Pres.refl _, _, _, run_str (c := e.c) hr1 hei.by8, Pres.refl _, fin (str_inj hei.by8 hmb) fun a' c' w' hk' _g => ?_⟩⟩
    · simp only [rdP_mk, rdC_mk]; exact hk'
    · simp only [rdP_mk, rdC_mk]; exact hk'
end
end Go.Proofs.Ytaflmpbeonoilaa
