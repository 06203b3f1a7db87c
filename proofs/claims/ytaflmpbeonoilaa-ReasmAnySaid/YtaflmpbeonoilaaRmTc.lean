/-
  Messages, cut (plain).
-/
import Derived.Test.YtaflmpbeonoilaaRmTb
namespace Go.Proofs.Ytaflmpbeonoilaa
open Go Go.Sh Go.RowKit
def flg (un b e : Bool) : Int :=
  let x : Int := if un = true then 4 else 0
  let y : Int := if b = true then bitI .or .u8 x 2 else x
  if e = true then bitI .or .u8 y 1 else y
theorem flg_has (un b e : Bool) : (bitI .and .u8 (flg un b e) 2 != 0) = b ∧ (bitI .and .u8 (flg un b e) 1 != 0) = e ∧ (bitI .and .u8 (flg un b e) 4 != 0) = un := by
  cases un <;> cases b <;> cases e <;> decide
def ncE (sz : Nat) (e : Em) : Nat := (e.m.d.length + sz - 1) / sz
def mkCh (sz : Nat) (e : Em) (t st ssn : Int) (j : Nat) : Ch :=
  ⟨R35.mk 0 (flg e.m.un (decide (j = 0)) (decide (e.m.d.length ≤ j * sz + sz))) ((t + (j : Int)) % 4294967296) st ssn e.m.pr 0 0 0 0 none 0 0 none 0 0 none 0 0
    (if e.c = j * sz then e.a else e.a.map (·.add (j * sz * 1))) (min (j * sz + sz) e.m.d.length - j * sz) (e.c - j * sz) none 0 0, (e.m.d.drop (j * sz)).take sz⟩
def mkBk (sz : Nat) (e : Em) (t st ssn : Int) : Bk := ⟨t, (List.range (ncE sz e)).map (mkCh sz e t st ssn), st, ssn, e.m.pr, e.m.un⟩
def ssnE (e : Em) (nx : List Int) : Int := if e.m.un = true then 0 else nx.getD (e.m.st % 4).toNat 0
def nxE (e : Em) (nx : List Int) : List Int := if e.m.un = true then nx else nx.set (e.m.st % 4).toNat (IntKind.wrap .u16 (nx.getD (e.m.st % 4).toNat 0 + 1))
def cutB (sz : Nat) : List Em → Int → List Int → List Bk
  | [], _, _ => []
  | e :: r, t, nx => mkBk sz e t (e.m.st % 4) (ssnE e nx) :: cutB sz r ((t + (ncE sz e : Int)) % 4294967296) (nxE e nx)
def totE (sz : Nat) (r : List Em) : Nat := (r.map (ncE sz)).sum
structure EmOk (e : Em) : Prop where
  ne : e.m.d ≠ []
  few : e.m.d.length ≤ 500
  st : 0 ≤ e.m.st ∧ e.m.st < 65536
section
variable {sz : Nat} {e : Em} {t st ssn : Int} {r : List Em} {nx : List Int}
theorem nc_pos (h : EmOk e) (hs : 1 ≤ sz ∧ sz ≤ 7) : 0 < ncE sz e := by
  have : e.m.d.length ≠ 0 := fun h' => h.ne (List.length_eq_zero_iff.1 h')
  unfold ncE
  exact Nat.div_pos (by omega) (by omega)
theorem nc_le (h : EmOk e) (hs : 1 ≤ sz ∧ sz ≤ 7) : ncE sz e ≤ 500 := by
  have := h.few
  unfold ncE
  have h1 : (e.m.d.length + sz - 1) / sz * sz ≤ e.m.d.length + sz - 1 := Nat.div_mul_le_self _ _
  apply Nat.le_of_not_lt
  intro hlt
  have h2 : 501 * sz ≤ (e.m.d.length + sz - 1) / sz * sz := Nat.mul_le_mul_right sz (by omega)
  have h3 : 501 * sz = 500 * sz + sz := by rw [show (501 : Nat) = 500 + 1 from rfl, Nat.add_mul, Nat.one_mul]
  have h4 : 500 ≤ 500 * sz := Nat.le_mul_of_pos_right 500 (by omega)
  omega
/-- a chunk is within its message just where its number is -/
theorem nc_iff (hs : 1 ≤ sz ∧ sz ≤ 7) (j : Nat) : j < ncE sz e ↔ j * sz < e.m.d.length := by
  unfold ncE
  have := Nat.lt_div_iff_mul_lt (x := j) (y := e.m.d.length + sz - 1) (k := sz) (by omega)
  constructor
  · intro h
    have h2 : (j + 1) * sz ≤ e.m.d.length + sz - 1 := (Nat.le_div_iff_mul_le (by omega)).1 h
    rw [Nat.add_mul, Nat.one_mul] at h2
    omega
  · intro h
    refine (Nat.le_div_iff_mul_le (by omega)).2 ?_
    rw [Nat.succ_mul]
    omega
theorem nc_last (hs : 1 ≤ sz ∧ sz ≤ 7) {j : Nat} (hj : j < ncE sz e) : e.m.d.length ≤ j * sz + sz ↔ j + 1 = ncE sz e := by
  have h1 := nc_iff (e := e) hs (j + 1)
  rw [Nat.add_mul, Nat.one_mul] at h1
  omega
theorem take_range (d : List Int) (n : Nat) : (List.range n).flatMap (fun j => (d.drop (j * sz)).take sz) = d.take (n * sz) := by
  induction n with
  | zero => simp
  | succ n ih =>
    rw [List.range_succ, List.flatMap_append, ih]
    simp only [List.flatMap_cons, List.flatMap_nil, List.append_nil]
    rw [Nat.succ_mul, List.take_add]
theorem mkBk_d (hs : 1 ≤ sz ∧ sz ≤ 7) : (mkBk sz e t st ssn).d = e.m.d := by
  unfold Bk.d mkBk
  simp only [List.flatMap_map]
  show (List.range (ncE sz e)).flatMap (fun j => (e.m.d.drop (j * sz)).take sz) = e.m.d
  rw [take_range]
  refine List.take_of_length_le ?_
  have := nc_iff (e := e) hs (ncE sz e)
  omega
theorem mkBk_ok (h : EmOk e) (hs : 1 ≤ sz ∧ sz ≤ 7) (ht : 0 ≤ t ∧ t < 4294967296) (hst : 0 ≤ st ∧ st < 4) : BkOk (mkBk sz e t st ssn) := by
  have hp := nc_pos h hs
  have hl := nc_le h hs
  have hlen : (mkBk sz e t st ssn).chs.length = ncE sz e := by simp [mkBk]
  have hget : ∀ (j : Nat) x, (mkBk sz e t st ssn).chs[j]? = some x → j < ncE sz e ∧ x = mkCh sz e t st ssn j := by
    intro j x hx
    have hj := (List.getElem?_eq_some_iff.1 hx).1
    rw [hlen] at hj
    unfold mkBk at hx
    simp only [List.getElem?_map, List.getElem?_range hj, Option.map_some, Option.some.injEq] at hx
    exact ⟨hj, hx.symm⟩
  have hf := fun j => flg_has e.m.un (decide (j = 0)) (decide (e.m.d.length ≤ j * sz + sz))
  refine ⟨ht, fun hn => ?_, by omega, fun j x hx => ?_, fun x hx => ?_, fun j x hx => ?_, fun j x hx => ?_, fun x hx => ?_, hst⟩
  · rw [hn] at hlen; simp at hlen; omega
  · rw [(hget j x hx).2]; rfl
  · obtain ⟨j, hj⟩ := List.getElem?_of_mem hx
    obtain ⟨hjl, rfl⟩ := hget j x hj
    have hjd := (nc_iff hs j).1 hjl
    refine ⟨rfl, fun hn => ?_, ?_, rfl, rfl, (hf j).2.2⟩
    · have : ((e.m.d.drop (j * sz)).take sz).length = 0 := by
        show (mkCh sz e t st ssn j).b.length = 0
        rw [hn]; rfl
      rw [List.length_take, List.length_drop] at this
      omega
    · show ((e.m.d.drop (j * sz)).take sz).length ≤ 7
      rw [List.length_take]; omega
  · obtain ⟨_, rfl⟩ := hget j x hx
    exact (hf j).1
  · obtain ⟨hjl, rfl⟩ := hget j x hx
    refine (hf j).2.1.trans ?_
    rw [hlen]
    exact decide_eq_decide.2 (nc_last hs hjl)
  · rw [(hget 0 x hx).2]; rfl
theorem mkBk_row (h : EmOk e) (hs : 1 ≤ sz ∧ sz ≤ 7) : (mkBk sz e t st ssn).row = (List.range (ncE sz e)).map fun i : Nat => (t + (i : Int)) % 4294967296 := by
  unfold Bk.row numsN Bk.n
  have hlen : (mkBk sz e t st ssn).chs.length = ncE sz e := by simp [mkBk]
  have hp := nc_pos h hs
  rw [hlen, show ncE sz e - 1 + 1 = ncE sz e by omega]
  rfl
theorem cutB_rows (hs : 1 ≤ sz ∧ sz ≤ 7) : ∀ (r : List Em) (t : Int) (nx : List Int), (∀ e ∈ r, EmOk e) → (cutB sz r t nx).flatMap Bk.row = (List.range (totE sz r)).map fun i : Nat => (t + (i : Int)) % 4294967296
  | [], _, _, _ => rfl
  | e :: r, t, nx, h => by
    unfold cutB
    rw [List.flatMap_cons, mkBk_row (h e (by simp)) hs, cutB_rows hs r _ _ fun x hx => h x (by simp [hx])]
    have : totE sz (e :: r) = ncE sz e + totE sz r := by unfold totE; simp
    rw [this, List.range_add, List.map_append, List.map_map]
    congr 1
    refine List.map_congr_left fun i _ => ?_
    show ((t + (ncE sz e : Int)) % 4294967296 + (i : Int)) % 4294967296 = (t + ((ncE sz e + i : Nat) : Int)) % 4294967296
    omega
theorem cutB_mem (hs : 1 ≤ sz ∧ sz ≤ 7) : ∀ (r : List Em) (t : Int) (nx : List Int), (∀ e ∈ r, EmOk e) → (0 ≤ t ∧ t < 4294967296) → ∀ k ∈ cutB sz r t nx, BkOk k
  | [], _, _, _, _, k, hk => by cases hk
  | e :: r, t, nx, h, ht, k, hk => by
    unfold cutB at hk
    have he := h e (by simp)
    have := he.st
    rcases List.mem_cons.1 hk with rfl | hk
    · exact mkBk_ok he hs ht (by omega)
    · exact cutB_mem hs r _ _ (fun x hx => h x (by simp [hx])) (by omega) k hk
theorem cutB_len : ∀ (r : List Em) (t : Int) (nx : List Int), (cutB sz r t nx).length = r.length
  | [], _, _ => rfl
  | e :: r, t, nx => by unfold cutB; rw [List.length_cons, List.length_cons, cutB_len r]
theorem cutB_ssn : ∀ (r : List Em) (t : Int) (nx : List Int), (∀ e ∈ r, EmOk e) → nx.length = 4 → (∀ st : Int, 0 ≤ st → st < 4 → 0 ≤ nx.getD st.toNat 0 ∧ nx.getD st.toNat 0 + r.length < 65536) → ∀ (st : Int) (p : Nat) k, ((cutB sz r t nx).filter (ordB st))[p]? = some k → k.ssn = nx.getD st.toNat 0 + (p : Int) ∧ 0 ≤ st ∧ st < 4
  | [], _, _, _, _, _, st, p, k, hp => by simp [cutB] at hp
  | e :: r, t, nx, h, hn, hr, st, p, k, hp => by
    unfold cutB at hp
    rw [List.filter_cons] at hp
    have he := h e (by simp)
    have hst := he.st
    have hr' : ∀ st : Int, 0 ≤ st → st < 4 → 0 ≤ (nxE e nx).getD st.toNat 0 ∧ (nxE e nx).getD st.toNat 0 + r.length < 65536 := by
      intro st' q1 q2
      have := hr st' q1 q2
      have h4 := hr (e.m.st % 4) (by omega) (by omega)
      rw [List.length_cons] at this h4
      unfold nxE
      by_cases hu : e.m.un = true
      · rw [if_pos hu]; omega
      · rw [if_neg hu]
        by_cases hq : st' = e.m.st % 4
        · rw [hq, List.getD_eq_getElem?_getD, List.getElem?_set_self (by omega)]
          show 0 ≤ IntKind.wrap .u16 _ ∧ IntKind.wrap .u16 _ + _ < _
          rw [wrap_u16 (by omega) (by omega)]
          omega
        · rw [getD_set_ne (by omega)]; omega
    have ih := cutB_ssn r ((t + (ncE sz e : Int)) % 4294967296) (nxE e nx) (fun x hx => h x (by simp [hx])) (by unfold nxE; split <;> simp [hn]) hr' st
    by_cases ho : ordB st (mkBk sz e t (e.m.st % 4) (ssnE e nx)) = true
    · rw [if_pos ho] at hp
      unfold ordB at ho
      rw [Bool.and_eq_true, beq_iff_eq] at ho
      have hu : e.m.un = false := by have := ho.1; simpa [mkBk] using this
      have hs' : e.m.st % 4 = st := ho.2
      have h4 := hr st (by omega) (by omega)
      cases p with
      | zero =>
        simp only [List.getElem?_cons_zero, Option.some.injEq] at hp
        subst hp
        show ssnE e nx = _ ∧ _
        unfold ssnE
        rw [if_neg (by rw [hu]; simp), hs']
        exact ⟨by omega, by omega, by omega⟩
      | succ p =>
        rw [List.getElem?_cons_succ] at hp
        obtain ⟨i1, i2⟩ := ih p k hp
        refine ⟨?_, i2⟩
        rw [i1]
        unfold nxE
        rw [if_neg (by rw [hu]; simp), hs', List.getD_eq_getElem?_getD, List.getElem?_set_self (by omega)]
        show IntKind.wrap .u16 (nx.getD st.toNat 0 + 1) + (p : Int) = _
        rw [List.length_cons] at h4
        rw [wrap_u16 (by omega) (by omega)]
        omega
    · rw [if_neg ho] at hp
      obtain ⟨i1, i2⟩ := ih p k hp
      refine ⟨?_, i2⟩
      rw [i1]
      have : (nxE e nx).getD st.toNat 0 = nx.getD st.toNat 0 := by
        unfold nxE
        by_cases hu : e.m.un = true
        · rw [if_pos hu]
        · rw [if_neg hu]
          have hq : e.m.st % 4 ≠ st := fun hq => ho (by unfold ordB mkBk; simp [hq]; simpa using hu)
          exact getD_set_ne (by omega)
      rw [this]
end
theorem flat_one {α β : Type} {f : α → List β} : ∀ {l : List α}, (l.flatMap f).Nodup → (∀ a ∈ l, f a ≠ []) → l.Nodup ∧ ∀ a ∈ l, ∀ b ∈ l, ∀ t, t ∈ f a → t ∈ f b → a = b
  | [], _, _ => ⟨by simp, by simp⟩
  | x :: l, h, hne => by
    rw [List.flatMap_cons, List.nodup_append] at h
    obtain ⟨h1, h2, h3⟩ := h
    obtain ⟨i1, i2⟩ := flat_one (l := l) h2 fun a ha => hne a (by simp [ha])
    refine ⟨?_, fun a ha b hb t hta htb => ?_⟩
    · rw [List.nodup_cons]
      refine ⟨fun hx => ?_, i1⟩
      have := hne x (by simp)
      cases hf : f x with
      | nil => exact this hf
      | cons t r => exact h3 t (by rw [hf]; simp) t (List.mem_flatMap.2 ⟨x, hx, by rw [hf]; simp⟩) rfl
    · rcases List.mem_cons.1 ha with e1 | ha'
      · rcases List.mem_cons.1 hb with e2 | hb'
        · rw [e1, e2]
        · subst e1; exact absurd rfl (h3 t hta t (List.mem_flatMap.2 ⟨b, hb', htb⟩))
      · rcases List.mem_cons.1 hb with e2 | hb'
        · subst e2; exact absurd rfl (h3 t htb t (List.mem_flatMap.2 ⟨a, ha', hta⟩))
        · exact i2 a ha' b hb' t hta htb
theorem cutB_cut {sz : Nat} {r : List Em} {t : Int} (hs : 1 ≤ sz ∧ sz ≤ 7) (h : ∀ e ∈ r, EmOk e) (ht : 0 ≤ t ∧ t < 4294967296) (hl : r.length ≤ 40) : Cut (cutB sz r t [0, 0, 0, 0]) := by
  have hrows := cutB_rows hs r t [0, 0, 0, 0] h
  have htot : totE sz r ≤ 20000 := by
    have : ∀ (r : List Em), (∀ e ∈ r, EmOk e) → totE sz r ≤ 500 * r.length := by
      intro r
      induction r with
      | nil => intro _; simp [totE]
      | cons e r ih =>
        intro h
        have := ih fun x hx => h x (by simp [hx])
        have := nc_le (h e (by simp)) hs
        unfold totE at *
        simp only [List.map_cons, List.sum_cons, List.length_cons]
        omega
    have := this r h
    omega
  have hnd : ((cutB sz r t [0, 0, 0, 0]).flatMap Bk.row).Nodup := by
    rw [hrows]
    unfold List.Nodup
    rw [List.pairwise_map]
    refine List.Pairwise.imp_of_mem ?_ (List.nodup_range (n := totE sz r))
    intro a b ha hb hab
    rw [List.mem_range] at ha hb
    omega
  obtain ⟨h1, h2⟩ := flat_one hnd fun k _ => Bk.row_ne
  refine ⟨cutB_mem hs r t _ h ht, h2, h1, fun st p k hp => ?_, by rw [cutB_len]; exact hl, by rw [hrows]; simp; exact htot⟩
  have hz : ∀ i : Nat, ([0, 0, 0, 0] : List Int).getD i 0 = 0 := fun i => by
    rcases i with _ | _ | _ | _ | i <;> simp
  have := cutB_ssn r t [0, 0, 0, 0] h rfl (fun st' _ _ => by rw [hz]; omega) st p k hp
  rw [this.1, hz]
  omega
end Go.Proofs.Ytaflmpbeonoilaa
