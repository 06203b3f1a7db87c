/-
  What is freed, what is kept; a report that comes once more (plain).
-/
import Derived.Test.YtmliokbonkndaaaObOps
namespace Go.Proofs.Ytmliokbonkndaaa
open Go Go.Sh
def keptE (e : En) : Nat := if e.st = 4 then 0 else e.data.length
def kept (l : List En) : Nat := (l.map keptE).sum
theorem kept_append (a b : List En) : kept (a ++ b) = kept a + kept b := by unfold kept; simp
theorem kept_le {l : List En} (h : ∀ e ∈ l, e.data.length ≤ 70000) : kept l ≤ l.length * 70000 := by
  induction l with
  | nil => exact Nat.le_refl _
  | cons x l ih =>
    have h1 := h x (by simp)
    have h2 := ih fun e he => h e (by simp [he])
    show keptE x + kept l ≤ (l.length + 1) * 70000
    unfold keptE
    split <;> omega
theorem kept_congr {a b : List En} (hl : a.length = b.length) (h : ∀ (k : Nat) x y, a[k]? = some x → b[k]? = some y → keptE x = keptE y) : kept a = kept b := by
  have : a.map keptE = b.map keptE := by
    apply List.ext_getElem?
    intro k
    rw [List.getElem?_map, List.getElem?_map]
    by_cases hk : k < a.length
    · obtain ⟨x, hx⟩ : ∃ x, a[k]? = some x := ⟨a[k], by simp [hk]⟩
      obtain ⟨y, hy⟩ : ∃ y, b[k]? = some y := ⟨b[k]'(by omega), by simp⟩
      rw [hx, hy]
      exact congrArg some (h k x y hx hy)
    · rw [List.getElem?_eq_none (by omega), List.getElem?_eq_none (by omega)]
  unfold kept
  rw [this]
theorem kept_take {l : List En} {j : Nat} {e : En} (h : l[j]? = some e) : kept (l.take (j + 1)) = kept (l.take j) + keptE e := by
  rw [List.take_add_one, h, kept_append]; simp [kept]
theorem kept_zero {l : List En} (h : ∀ e ∈ l, e.st = 4) : kept l = 0 := by
  induction l with
  | nil => rfl
  | cons x l ih =>
    show keptE x + kept l = 0
    rw [ih fun e he => h e (by simp [he])]
    unfold keptE
    rw [if_pos (h x (by simp))]
theorem kept_get (l : List En) : ∀ {k : Nat} {e : En}, l[k]? = some e → kept l = kept (l.take k) + kept (l.drop k) := by
  intro k e _
  conv => lhs; rw [← List.take_append_drop k l]
  exact kept_append _ _
theorem turn_data (f1 f2 f3 : Bool) (e : En) : (turnF f1 f2 f3 e).data = e.data := (turn_same f1 f2 f3 e).2.2.2.1
/-- one chunk: what is kept of it, and what is freed -/
theorem turn_kept {t g v : Bool} {e : En} {fr : Int} (hv : v = true → e.st ≠ 4) (h0 : 0 ≤ fr) (h1 : fr + e.data.length < 9223372036854775808) :
    turnG t g v e fr + (keptE (turnF t g v e) : Int) = fr + keptE e ∧ fr ≤ turnG t g v e fr ∧ turnG t g v e fr ≤ fr + e.data.length := by
  have hw : IntKind.wrap .i64 (fr + (e.data.length : Int)) = fr + e.data.length := wrap_i64 (by omega) (by omega)
  unfold turnG turnF keptE En.mk'
  cases v <;> cases t <;> cases g <;> by_cases h3 : e.st = 3 <;> by_cases h4 : e.st = 4 <;> simp [h3, h4, hw] <;> first | omega | (exfalso; exact hv rfl h4) | skip
theorem tsum_kept {t g v : Nat → Bool} {l : List En} (hl : l.length ≤ 1048576) (hd : ∀ e ∈ l, e.data.length ≤ 70000) (hv : ∀ (k : Nat) e, l[k]? = some e → v k = true → e.st ≠ 4) :
    ∀ j, j ≤ l.length → (tsum t g v l j).1 + (kept ((turnL t g v l).take j) : Int) = kept (l.take j) ∧ 0 ≤ (tsum t g v l j).1 ∧ (tsum t g v l j).1 ≤ (j : Int) * 70000 := by
  intro j
  induction j with
  | zero => intro _; exact ⟨rfl, Int.le_refl _, Int.le_refl _⟩
  | succ j ih =>
    intro hj
    obtain ⟨i1, i2, i3⟩ := ih (by omega)
    obtain ⟨e, he⟩ : ∃ e, l[j]? = some e := ⟨l[j]'(by omega), by simp⟩
    have hs := hd e (List.mem_of_getElem? he)
    have ht : (turnL t g v l)[j]? = some (turnF (t j) (g j) (v j) e) := by unfold turnL; rw [List.getElem?_mapIdx, he]; rfl
    rw [kept_take he, kept_take ht, tsum_succ he]
    obtain ⟨k1, k2, k3⟩ := turn_kept (t := t j) (g := g j) (v := v j) (e := e) (fr := (tsum t g v l j).1) (hv j e he) i2 (by omega)
    refine ⟨?_, ?_, ?_⟩
    · show turnG _ _ _ _ _ + _ = _
      simp only [Int.natCast_add]
      omega
    · show 0 ≤ turnG _ _ _ _ _
      omega
    · show turnG _ _ _ _ _ ≤ _
      omega
theorem quick_kept (B : Bool) (e : En) (hB : B = true → e.st = 1) : keptE (quickF B e) = keptE e := by
  unfold quickF keptE
  split
  · rename_i h
    have := hB h
    split <;> simp [this]
  · rfl
theorem bqk_st {lt : Nat → Int} {e : En} (h : bqk lt e = true) : e.st = 1 := by
  unfold bqk at h
  rw [Bool.and_eq_true] at h
  simpa using h.1
section
variable {N : Nat} {cum now path : Int} {l : List En} {r : Rp}
theorem newly_opn {k : Nat} {e : En} (hk : l[k]? = some e) (h : r.newly cum l k = true) : e.opn = true := by
  unfold Rp.newly newF at h
  rw [hk, Bool.and_eq_true] at h
  exact h.2
theorem opn_st {e : En} (h : e.opn = true) : e.st = 1 ∨ e.st = 2 := by
  unfold En.opn at h
  simpa using h
theorem l1_at {k : Nat} {e : En} (hk : l[k]? = some e) : (r.l1 cum l)[k]? = some (turnF (r.told cum k) (r.good cum k) (r.newly cum l k) e) := by
  unfold Rp.l1 turnL
  rw [List.getElem?_mapIdx, hk]; rfl
theorem l2_at {k : Nat} {e : En} (hk : l[k]? = some e) : (r.l2 cum now l)[k]? = some (quickL (r.newly cum l) (r.ack cum now l) (r.l1 cum l) k (turnF (r.told cum k) (r.good cum k) (r.newly cum l k) e)) := by
  unfold Rp.l2
  rw [List.getElem?_mapIdx, l1_at hk]; rfl
theorem l1_len : (r.l1 cum l).length = l.length := by unfold Rp.l1 turnL; rw [List.length_mapIdx]
theorem l2_len : (r.l2 cum now l).length = l.length := by unfold Rp.l2; rw [List.length_mapIdx, l1_len]
/-- the states behind a report -/
theorem l2_st {k : Nat} {e' : En} (h : OkB N cum l) (hk : (r.l2 cum now l)[k]? = some e') : (r.told cum k = true → e'.st = 3 ∨ e'.st = 4) ∧ (r.told cum k = false → e'.st ≠ 3) ∧ (r.good cum k = true → e'.st = 4) := by
  have hlt : k < l.length := by rw [← l2_len (r := r) (cum := cum) (now := now)]; exact (List.getElem?_eq_some_iff.1 hk).1
  obtain ⟨e, he⟩ : ∃ e, l[k]? = some e := ⟨l[k]'hlt, by simp⟩
  have hst := h.st e (List.mem_of_getElem? he)
  rw [l2_at he] at hk
  have hk := Option.some.inj hk
  have hgt : r.good cum k = true → r.told cum k = true := fun hg => by
    unfold Rp.told toldF
    unfold Rp.good at hg
    rw [hg]; rfl
  have hn : r.newly cum l k = (r.told cum k && e.opn) := by unfold Rp.newly newF; rw [he]
  have ho : e.opn = decide (e.st = 1 ∨ e.st = 2) := by
    unfold En.opn
    by_cases h1 : e.st = 1 <;> by_cases h2 : e.st = 2 <;> simp [h1, h2]
  have key : ∀ e1 : En, e1 = turnF (r.told cum k) (r.good cum k) (r.newly cum l k) e → (r.told cum k = true → e1.st = 3 ∨ e1.st = 4) ∧ (r.told cum k = false → e1.st ≠ 3) ∧ (r.good cum k = true → e1.st = 4) := by
    intro e1 h1
    subst h1
    rw [hn, ho]
    unfold turnF En.mk'
    cases ht : r.told cum k with
    | false =>
      have hg : r.good cum k = false := by
        cases hg : r.good cum k with
        | false => rfl
        | true => rw [hgt hg] at ht; cases ht
      rw [hg]
      by_cases h3 : e.st = 3 <;> simp [h3]
    | true =>
      cases hg : r.good cum k <;> by_cases h12 : e.st = 1 ∨ e.st = 2 <;> by_cases h3 : e.st = 3 <;> simp [h12, h3] <;> omega
  obtain ⟨k1, k2, k3⟩ := key _ rfl
  obtain ⟨e1, he1⟩ : ∃ e1, e1 = turnF (r.told cum k) (r.good cum k) (r.newly cum l k) e := ⟨_, rfl⟩
  rw [← he1] at hk k1 k2 k3
  subst hk
  unfold quickL quickF
  split
  · rename_i hb
    have h1 := bqk_st hb
    have t0 : r.told cum k = false := by
      cases ht : r.told cum k with
      | false => rfl
      | true => have := k1 ht; omega
    have g0 : r.good cum k = false := by
      cases hg : r.good cum k with
      | false => rfl
      | true => have := k3 hg; omega
    rw [t0, g0]
    split <;> simp [h1]
  · exact ⟨k1, k2, k3⟩
/-- a right report: what is kept and what is freed -/
theorem report_kept (h : OkB N cum l) (h0 : 0 ≤ sd cum r.tsn) (h1 : sd cum r.tsn ≤ (l.length : Int)) (now : Int) :
    (kept ((r.l2 cum now l).drop (sd cum r.tsn).toNat) : Int) + (r.sums cum l).1 = kept l ∧ 0 ≤ (r.sums cum l).1 := by
  have hv : ∀ (k : Nat) e, l[k]? = some e → r.newly cum l k = true → e.st ≠ 4 := fun k e hk hn => by
    have := opn_st (newly_opn hk hn)
    omega
  obtain ⟨s1, s2, _⟩ := tsum_kept (t := r.told cum) (g := r.good cum) h.len h.size hv l.length (Nat.le_refl _)
  rw [List.take_of_length_le (Nat.le_refl _)] at s1
  have e1 : (turnL (r.told cum) (r.good cum) (r.newly cum l) l).take l.length = r.l1 cum l := List.take_of_length_le (by rw [show turnL _ _ _ l = r.l1 cum l from rfl, l1_len]; exact Nat.le_refl _)
  rw [e1] at s1
  have e2 : kept (r.l2 cum now l) = kept (r.l1 cum l) := kept_congr (by rw [l1_len, l2_len]) fun k x y hx hy => by
    unfold Rp.l2 at hx
    rw [List.getElem?_mapIdx, hy] at hx
    have hx := Option.some.inj hx
    subst hx
    exact quick_kept _ _ bqk_st
  have e3 : kept (r.l2 cum now l) = kept ((r.l2 cum now l).drop (sd cum r.tsn).toNat) := by
    conv => lhs; rw [← List.take_append_drop (sd cum r.tsn).toNat (r.l2 cum now l), kept_append]
    rw [kept_zero fun e he => ?_, Nat.zero_add]
    obtain ⟨k, hk⟩ := List.getElem?_of_mem he
    rw [List.getElem?_take] at hk
    split at hk
    · rename_i hlt
      refine (l2_st h hk).2.2 ?_
      unfold Rp.good goodF Rp.n0
      rw [show decide ((k : Int) < sd cum r.tsn) = true by simp; omega]
      rfl
    · cases hk
  refine ⟨?_, s2⟩
  rw [← e3, e2]
  show _ + (tsum _ _ _ l l.length).1 = _
  omega
theorem again_kept (l : List En) : kept (upd1 mrkB (En.again path now) l) = kept l := by
  induction l with
  | nil => rfl
  | cons x l ih =>
    unfold upd1
    split
    · rename_i h
      have h2 : x.st = 2 := by unfold mrkB at h; simpa using h
      show keptE (x.again path now) + kept l = keptE x + kept l
      have e1 : keptE (x.again path now) = x.data.length := by
        unfold keptE
        rw [if_neg (by show ¬ (1 : Int) = 4; decide)]
        rfl
      have e2 : keptE x = x.data.length := by
        unfold keptE
        rw [if_neg (by rw [h2]; decide)]
      rw [e1, e2]
    · show keptE x + kept (upd1 mrkB (En.again path now) l) = keptE x + kept l
      rw [ih]
theorem giveUp_kept (l : List En) : kept (giveUp path l) = kept l := by
  refine kept_congr (by unfold giveUp; simp) fun k x y hx hy => ?_
  unfold giveUp at hx
  rw [List.getElem?_map, hy] at hx
  have hx : (if onB path y = true then y.mk' else y) = x := Option.some.inj hx
  rw [← hx]
  split
  · rename_i h
    have h1 : y.st = 1 := by
      unfold onB at h
      rw [Bool.and_eq_true] at h
      simpa using h.1
    have e1 : keptE y.mk' = y.data.length := by
      unfold keptE
      rw [if_neg (by show ¬ (2 : Int) = 4; decide)]
      rfl
    have e2 : keptE y = y.data.length := by
      unfold keptE
      rw [if_neg (by rw [h1]; decide)]
    rw [e1, e2]
  · rfl
end
/-- has an act put a chunk? -/
def putX (N : Nat) (o : Opx) (x : St) : Bool := decide (o.kind = 1 ∧ putE (N : Int) o.path o.now o.e x.2.length = 0)
theorem once_step {W : World} {N : Nat} {x : St} {o : Opx} (h : OkB N x.1 x.2) (ok : OpxOk W o) :
    (kept (actX N o x).1.2 : Int) + (actX N o x).2 = kept x.2 + (if putX N o x = true then (o.e.data.length : Int) else 0) ∧ 0 ≤ (actX N o x).2 ∧ (putX N o x = true → (actX N o x).1.2.length = x.2.length + 1 ∧ (actX N o x).1.1 = x.1 ∧ o.e.data.length ≤ 65536) ∧ (o.kind = 1 → putX N o x = false → (actX N o x).1 = x) := by
  unfold putX actX
  by_cases k1 : o.kind = 1
  · by_cases hp : putE (N : Int) o.path o.now o.e x.2.length = 0
    · simp only [k1, hp, if_true, and_self, decide_true]
      refine ⟨?_, Int.le_refl _, fun _ => ⟨by simp, by simp, (putE_zero hp).2.2.1⟩, fun _ h => by cases h⟩
      rw [kept_append]
      show ((kept x.2 + (keptE _ + 0) : Nat) : Int) + 0 = _
      unfold keptE
      rw [if_neg (by show ¬ (1 : Int) = 4; decide)]
      show ((kept x.2 + (o.e.data.length + 0) : Nat) : Int) + 0 = _
      omega
    · simp [k1, hp]
  · simp only [k1, if_false, false_and, decide_false, Bool.false_eq_true]
    refine ⟨?_, ?_, fun h => h.elim, fun h => h.elim⟩
    all_goals
      by_cases k2 : o.kind = 2
      · simp only [k2, if_true]
        split
        · simp [again_kept]
        · simp
      · simp only [k2, if_false]
        by_cases k3 : o.kind = 3
        · simp only [k3, if_true]
          split
          · rename_i h0
            obtain ⟨z0, z1⟩ := repE_range h0 h.len
            have := report_kept h z0 z1 o.now
            first | exact this.2 | (rw [Int.add_zero]; exact this.1)
          · simp
        · simp only [k3, if_false]
          by_cases k4 : o.kind = 4
          · simp only [k4, if_true]
            split
            · simp [giveUp_kept]
            · simp
          · simp [k4]
section
variable {N : Nat} {cum now path : Int} {l : List En} {r : Rp}
/-- nothing is left to be done by a report of this kind -/
def Settled (t g : Nat → Bool) (l : List En) : Prop := ∀ (k : Nat) e, l[k]? = some e → (t k = true → e.st = 3 ∨ e.st = 4) ∧ (t k = false → e.st ≠ 3) ∧ (g k = true → e.st = 4)
theorem settled_new {t g : Nat → Bool} (h : Settled t g l) (k : Nat) : newF t l k = false := by
  unfold newF
  cases hk : l[k]? with
  | none => simp
  | some e =>
    cases ht : t k with
    | false => rfl
    | true =>
      have := (h k e hk).1 ht
      unfold En.opn
      simp only [Bool.true_and]
      rcases this with h | h <;> rw [h] <;> rfl
theorem settled_turn {t g v : Nat → Bool} (h : Settled t g l) (hv : ∀ k, v k = false) {k : Nat} {e : En} (hk : l[k]? = some e) : turnF (t k) (g k) (v k) e = e ∧ (∀ fr, turnG (t k) (g k) (v k) e fr = fr) ∧ ∀ rn, turnR (t k) (v k) e rn = rn := by
  obtain ⟨h1, h2, h3⟩ := h k e hk
  rw [hv k]
  unfold turnF turnG turnR
  have n1 : ¬ (e.st = 3 ∧ t k = false) := fun hh => h2 hh.2 hh.1
  have n2 : ¬ (g k = true ∧ e.st = 3) := fun hh => by have := h3 hh.1; omega
  simp only [Bool.false_eq_true, if_false, if_neg n1, if_neg n2]
  refine ⟨trivial, fun _ => trivial, fun rn => ?_⟩
  rw [if_neg fun hh => h2 hh.2.2 hh.2.1]
theorem settled_turnL {t g v : Nat → Bool} (h : Settled t g l) (hv : ∀ k, v k = false) : turnL t g v l = l := by
  unfold turnL
  apply List.ext_getElem?
  intro k
  rw [List.getElem?_mapIdx]
  cases hk : l[k]? with
  | none => rfl
  | some e => exact congrArg some (settled_turn h hv hk).1
theorem settled_tsum {t g v : Nat → Bool} (h : Settled t g l) (hv : ∀ k, v k = false) : ∀ j, j ≤ l.length → tsum t g v l j = (0, 0) := by
  intro j
  induction j with
  | zero => intro _; rfl
  | succ j ih =>
    intro hj
    obtain ⟨e, he⟩ : ∃ e, l[j]? = some e := ⟨l[j]'(by omega), by simp⟩
    rw [tsum_succ he, ih (by omega)]
    obtain ⟨_, s2, s3⟩ := settled_turn h hv he
    rw [s2, s3]
theorem stj_none {v : Nat → Bool} (hv : ∀ k, v k = false) (p : Nat) : ∀ j, j ≤ l.length → (stj now v l j p).1 = ak0 := by
  intro j
  induction j with
  | zero => intro _; rfl
  | succ j ih =>
    intro hj
    obtain ⟨e, he⟩ : ∃ e, l[j]? = some e := ⟨l[j]'(by omega), by simp⟩
    have := ih (by omega)
    rw [stj_succ he, hv j]
    unfold akStep
    split
    · simp [this, ak0]
    · exact this
theorem qR_none {v : Nat → Bool} (hv : ∀ k, v k = false) {F0 : Nat → R52} : ∀ (l : List En) (j : Nat), (∀ e ∈ l, 0 ≤ e.sent) → qR v F0 j l = (fun _ => -1, F0)
  | [], _, _ => rfl
  | e :: l, j, h => by
    have ih := qR_none hv (F0 := F0) l (j + 1) fun x hx => h x (by simp [hx])
    have he := h e (by simp)
    unfold qR
    rw [ih, hv j]
    have : bqk (fun _ => (-1 : Int)) e = false := by
      unfold bqk
      rw [show decide ((-1 : Int) ≥ e.sent) = false by simp; omega]
      simp
    simp only [this]
    unfold mkdB latS
    simp
theorem settled_all {t g : Nat → Bool} (h : Settled t g l) (hs : ∀ e ∈ l, 0 ≤ e.sent) (now : Int) :
    turnL t g (newF t l) l = l ∧ tsum t g (newF t l) l l.length = (0, 0) ∧ (∀ p, ackOut now (newF t l) l p = ak0) ∧ ∀ F0, (l.mapIdx (quickL (newF t l) F0 l)) = l ∧ (qS (newF t l) F0 l 0).2 = F0 := by
  have hv := settled_new h
  refine ⟨settled_turnL h hv, settled_tsum h hv _ (Nat.le_refl _), fun p => stj_none hv p _ (Nat.le_refl _), fun F0 => ?_⟩
  constructor
  · apply List.ext_getElem?
    intro k
    rw [List.getElem?_mapIdx]
    cases hk : l[k]? with
    | none => rfl
    | some e =>
      refine congrArg some ?_
      have he := hs e (List.mem_of_getElem? hk)
      unfold quickL qS
      rw [qR_none hv _ _ fun x hx => hs x (List.mem_of_mem_drop hx)]
      have : bqk (fun _ => (-1 : Int)) e = false := by
        unfold bqk
        rw [show decide ((-1 : Int) ≥ e.sent) = false by simp; omega]
        simp
      simp only [this]
      unfold quickF
      simp
  · unfold qS
    rw [qR_none hv _ _ fun x hx => hs x (List.mem_of_mem_drop hx)]
theorem repE_parts {len : Nat} (h : repE r cum len now = 0) : rightE r.kind r.tsn cum len [r.G, r.nr] = 0 ∧ ¬ (now < 0 ∨ now > 1099511627776) := by
  unfold repE at h
  split at h
  · exact absurd h (by decide)
  · split at h
    · exact absurd h (by decide)
    · exact ⟨h, ‹_›⟩
theorem right_again {kind tsn : Int} {len len' : Nat} {Gs : List (List Gp)} (h : rightE kind tsn cum len Gs = 0) (hn : nxt tsn len' = nxt cum len) : rightE kind tsn tsn len' Gs = 0 := by
  unfold rightE at h ⊢
  rw [hn]
  have a1 : ¬ sd tsn tsn > 0 := by rw [sd_self]; omega
  rw [if_neg a1]
  split at h
  · exact absurd h (by decide)
  · split at h
    · exact absurd h (by decide)
    · split at h
      · exact absurd h (by decide)
      · split at h
        · exact absurd h (by decide)
        · rename_i q1 q2 q3 q4
          rw [if_neg q1, if_neg q2, if_neg q4]
/-- a report that comes once more: right, and nothing changes -/
theorem again_report (h : OkB N cum l) (ht : 0 ≤ r.tsn ∧ r.tsn < 4294967296) (h0 : repE r cum l.length now = 0) (hc : sd cum r.tsn = 0 ∨ (r.G = [] ∧ r.nr = [])) :
    ∃ l', l' = (r.l2 cum now l).drop (r.n0 cum).toNat ∧ repE r r.tsn l'.length now = 0 ∧ r.sums r.tsn l' = (0, 0) ∧ (∀ p, r.paths r.tsn now l' p = ak0) ∧ (r.l2 r.tsn now l').drop (r.n0 r.tsn).toNat = l' ∧ OkB N r.tsn l' := by
  obtain ⟨z0, z1⟩ := repE_range h0 h.len
  have hl := h.len
  have hcu := h.cum
  have hok := h.report ht z0 z1 now
  refine ⟨_, rfl, ?_, ?_⟩
  · rw [List.length_drop, l2_len]
    have hn : nxt r.tsn (l.length - (r.n0 cum).toNat) = nxt cum l.length := by
      obtain ⟨q, hq⟩ : ∃ q, q = sd cum r.tsn := ⟨_, rfl⟩
      unfold Rp.n0
      rw [← hq] at z0 z1 ⊢
      unfold sd at hq
      unfold nxt
      split at hq <;> omega
    obtain ⟨p1, p2⟩ := repE_parts h0
    have p3 := right_again p1 hn
    unfold repE
    rw [p3, if_neg (by decide), if_neg p2]
  · have hs : ∀ e ∈ (r.l2 cum now l).drop (r.n0 cum).toNat, 0 ≤ e.sent := hok.sent
    have hn0 : r.n0 r.tsn = 0 := sd_self _
    have hset : Settled (r.told r.tsn) (r.good r.tsn) ((r.l2 cum now l).drop (r.n0 cum).toNat) := by
      intro k e hk
      rw [List.getElem?_drop] at hk
      have key := l2_st h hk
      rcases hc with hc | ⟨hG, hN⟩
      · have e0 : r.n0 cum = 0 := hc
        have e1 : r.told r.tsn = r.told cum := by unfold Rp.told; rw [hn0, e0]
        have e2 : r.good r.tsn = r.good cum := by unfold Rp.good; rw [hn0, e0]
        rw [e1, e2]
        rw [e0] at key
        simpa using key
      · have g0 : ∀ k, r.good r.tsn k = false := fun k => by
          unfold Rp.good goodF
          rw [hn0, hN]
          rw [show decide ((k : Int) < 0) = false by simp]
          rfl
        have t0 : ∀ k, r.told r.tsn k = false := fun k => by
          have := g0 k
          unfold Rp.good at this
          unfold Rp.told toldF
          rw [this, hG]
          rfl
        have t1 : r.told cum ((r.n0 cum).toNat + k) = false := by
          unfold Rp.told toldF goodF
          rw [hN, hG, show decide ((((r.n0 cum).toNat + k : Nat) : Int) < r.n0 cum) = false by simp; omega]
          rfl
        rw [t0, g0]
        exact ⟨fun h => (by cases h), fun _ => key.2.1 t1, fun h => (by cases h)⟩
    obtain ⟨l', hl'⟩ : ∃ l', l' = (r.l2 cum now l).drop (r.n0 cum).toNat := ⟨_, rfl⟩
    have hok' : OkB N r.tsn l' := by rw [hl']; exact hok
    rw [← hl'] at hset hs ⊢
    obtain ⟨s1, s2, s3, s4⟩ := settled_all hset hs now
    have e1 : r.l1 r.tsn l' = l' := s1
    refine ⟨s2, fun p => ?_, ?_, hok'⟩
    · unfold Rp.paths
      rw [e1]
      have := (s4 (r.ack r.tsn now l')).2
      unfold Rp.newly
      rw [this]
      exact s3 p
    · unfold Rp.l2
      rw [e1]
      have := (s4 (r.ack r.tsn now l')).1
      rw [hn0]
      show List.drop 0 _ = _
      rw [List.drop_zero]
      exact this
end
end Go.Proofs.Ytmliokbonkndaaa
