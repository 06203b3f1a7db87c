/-
  What is told of path 0's chunks alone leaves path 1's as they were (plain).
-/
import Derived.Test.YtmliokbonkndaaaObN
namespace Go.Proofs.Ytmliokbonkndaaa
open Go Go.Sh
def onOne (Bs : List Bool) (k : Nat) : Bool := Bs.getD k false
/-- chunks of path 1 lie as they were sent -/
def Inv (Bs : List Bool) (l : List En) : Prop := ∀ (k : Nat) e, l[k]? = some e → e.path = (if onOne Bs k = true then 1 else 0) ∧ e.data.length ≤ 70000 ∧ (e.path = 1 → e.st = 1 ∧ e.miss = 0 ∧ 0 ≤ e.sent)
def GP (Bs : List Bool) (m : Nat) (G : List Gp) : Prop := ∀ g ∈ G, g.1 = g.2 ∧ 1 ≤ g.1 ∧ g.1 ≤ (m : Int) ∧ g.1 ≤ 60 ∧ onOne Bs (g.1 - 1).toNat = false
theorem sd_self (a : Int) : sd a a = 0 := by unfold sd; simp
section
variable {Bs : List Bool} {l : List En} {t g v : Nat → Bool} {now : Int}
theorem Inv.one {k : Nat} {e : En} (h : Inv Bs l) (hk : l[k]? = some e) (hp : e.path = 1) : onOne Bs k = true := by
  have := (h k e hk).1
  rw [hp] at this
  by_cases h1 : onOne Bs k = true
  · exact h1
  · rw [if_neg h1] at this; omega
theorem turn_inv (h : Inv Bs l) (ht : ∀ k, t k = true → onOne Bs k = false) (hv : ∀ k, v k = true → onOne Bs k = false) (hg : ∀ k, g k = false) : Inv Bs (turnL t g v l) := by
  intro k e hk
  unfold turnL at hk
  rw [List.getElem?_mapIdx] at hk
  cases hl : l[k]? with
  | none => rw [hl] at hk; cases hk
  | some x =>
    rw [hl] at hk
    have hk : turnF (t k) (g k) (v k) x = e := by simpa using hk
    have hx := h k x hl
    have key : e.path = x.path ∧ e.data = x.data := by
      rw [← hk, hg k]
      unfold turnF
      simp only [Bool.false_eq_true, false_and, if_false]
      split
      · exact ⟨rfl, rfl⟩
      · split <;> exact ⟨rfl, rfl⟩
    rw [key.1, key.2]
    refine ⟨hx.1, hx.2.1, fun hp => ?_⟩
    have ho := h.one hl hp
    have e1 : v k = false := by
      cases hvk : v k with
      | false => rfl
      | true => rw [hv k hvk] at ho; cases ho
    have e2 : e = x := by
      rw [← hk, hg k, e1]
      unfold turnF
      have := (hx.2.2 hp).1
      simp [this]
    rw [e2]
    exact hx.2.2 hp
theorem ack_one (h : Inv Bs l) (hv : ∀ k, v k = true → onOne Bs k = false) : ackOut now v l 1 = ak0 := by
  have key : ∀ j, j ≤ l.length → (stj now v l j 1).1 = ak0 := by
    intro j
    induction j with
    | zero => intro _; rfl
    | succ j ih =>
      intro hj
      have hl : l[j]? = some (l[j]'(by omega)) := by simp
      have e1 : stj now v l (j + 1) 1 = akStep now 1 (stj now v l j 1) (l[j]'(by omega), v j) := by
        unfold stj
        rw [List.take_add_one, withF_at hl, List.foldl_append]
        rfl
      rw [e1]
      unfold akStep
      have ih := ih (by omega)
      split
      · rename_i hc
        have ho := h.one hl hc.2
        have e2 : v j = false := by
          cases hvk : v j with
          | false => rfl
          | true => rw [hv j hvk] at ho; cases ho
        simp only [e2, ih]
        have : (if (stj now v l j 1).2 = true then ak0.f1 else false) = false := by split <;> rfl
        rw [this]
        rfl
      · exact ih
  exact key _ (Nat.le_refl _)
theorem qR_one {F0 : Nat → R52} (hF : F0 1 = ak0) (h : Inv Bs l) (hv : ∀ k, v k = true → onOne Bs k = false) : ∀ (i j : Nat), j + i = l.length → (qS v F0 l j).1 1 = -1 ∧ (qS v F0 l j).2 1 = ak0 := by
  intro i
  induction i with
  | zero =>
    intro j hj
    unfold qS
    rw [List.drop_eq_nil_of_le (by omega)]
    exact ⟨rfl, hF⟩
  | succ i ih =>
    intro j hj
    have hl : l[j]? = some (l[j]'(by omega)) := by simp
    obtain ⟨e, he⟩ : ∃ e, e = l[j]'(by omega) := ⟨_, rfl⟩
    rw [← he] at hl
    obtain ⟨i1, i2⟩ := ih (j + 1) (by omega)
    rw [qS_step hl]
    have hx := h j e hl
    constructor
    · show latS (v j) e (qS v F0 l (j + 1)).1 1 = -1
      unfold latS
      split
      · rename_i hc
        have ho := h.one hl hc.2
        rw [hv j hc.1] at ho; cases ho
      · exact i1
    · show (if mkdB (bqk (qS v F0 l (j + 1)).1 e) e = true then _ else _ : Nat → R52) 1 = ak0
      split
      · rename_i hm
        have hp : e.path ≠ 1 := by
          intro hp
          have h3 := (hx.2.2 hp).2.2
          have hb : bqk (qS v F0 l (j + 1)).1 e = true := by
            unfold mkdB at hm
            cases hb : bqk (qS v F0 l (j + 1)).1 e with
            | true => rfl
            | false => rw [hb] at hm; simp at hm
          unfold bqk at hb
          rw [hp] at hb
          simp only [show (1 : Int).toNat = 1 from rfl, i1, Bool.and_eq_true, decide_eq_true_eq] at hb
          omega
        unfold withL
        rw [if_neg ?_]
        · exact i2
        · have := hx.1
          intro h1
          apply hp
          split at this
          · exact this
          · rw [this] at h1; cases h1
      · exact i2
theorem quick_inv {F0 : Nat → R52} (hF : F0 1 = ak0) (h : Inv Bs l) (hv : ∀ k, v k = true → onOne Bs k = false) : Inv Bs (l.mapIdx (quickL v F0 l)) := by
  intro k e hk
  rw [List.getElem?_mapIdx] at hk
  cases hl : l[k]? with
  | none => rw [hl] at hk; cases hk
  | some x =>
    rw [hl] at hk
    have hk : quickL v F0 l k x = e := by simpa using hk
    have hx := h k x hl
    obtain ⟨p1, _, p3⟩ := quickF_path (bqk (qS v F0 l (k + 1)).1 x) x
    have hk' : quickF (bqk (qS v F0 l (k + 1)).1 x) x = e := hk
    rw [hk'] at p1 p3
    rw [p1, p3]
    refine ⟨hx.1, hx.2.1, fun hp => ?_⟩
    have hlt := (List.getElem?_eq_some_iff.1 hl).1
    have i1 := (qR_one hF h hv (l.length - (k + 1)) (k + 1) (by omega)).1
    have hb : bqk (qS v F0 l (k + 1)).1 x = false := by
      unfold bqk
      rw [hp, show (1 : Int).toNat = 1 from rfl, i1]
      have := (hx.2.2 hp).2.2
      have : ¬ ((-1 : Int) ≥ x.sent) := by omega
      simp [this]
    rw [hb] at hk'
    rw [← hk']
    exact hx.2.2 hp
end
section
variable {Bs : List Bool} {l : List En} {G : List Gp} {cum now : Int} {m : Nat}
theorem split_told (hG : GP Bs m G) : (∀ k, (Rp.mk 3 cum G []).told cum k = true → onOne Bs k = false) ∧ (∀ k, (Rp.mk 3 cum G []).good cum k = false) ∧ (∀ k, (Rp.mk 3 cum G []).newly cum l k = true → onOne Bs k = false) := by
  have g0 : ∀ k, (Rp.mk 3 cum G []).good cum k = false := by
    intro k
    unfold Rp.good Rp.n0 Rp.nr goodF ins
    simp only [sd_self]
    rw [if_neg (by omega)]
    simp
  have t0 : ∀ k, (Rp.mk 3 cum G []).told cum k = true → onOne Bs k = false := by
    intro k hk
    have hk : (goodF ((Rp.mk 3 cum G []).n0 cum) (Rp.mk 3 cum G []).nr k || ins G ((k : Int) + 1 - (Rp.mk 3 cum G []).n0 cum)) = true := hk
    have h1 : goodF ((Rp.mk 3 cum G []).n0 cum) (Rp.mk 3 cum G []).nr k = false := g0 k
    rw [h1, Bool.false_or] at hk
    unfold Rp.n0 at hk
    simp only [sd_self] at hk
    unfold ins at hk
    rw [List.any_eq_true] at hk
    obtain ⟨x, hx, hk⟩ := hk
    simp only [decide_eq_true_eq] at hk
    obtain ⟨a1, a2, a3, a4, a5⟩ := hG x hx
    rw [show (x.1 - 1).toNat = k by omega] at a5
    exact a5
  refine ⟨t0, g0, fun k hk => ?_⟩
  unfold Rp.newly newF at hk
  rw [Bool.and_eq_true] at hk
  exact t0 k hk.1
theorem split_inv (hG : GP Bs m G) (h : Inv Bs l) : Inv Bs ((Rp.mk 3 cum G []).l2 cum now l) ∧ (Rp.mk 3 cum G []).paths cum now l 1 = ak0 := by
  obtain ⟨t0, g0, n0⟩ := split_told (l := l) (cum := cum) hG
  have i1 : Inv Bs ((Rp.mk 3 cum G []).l1 cum l) := turn_inv h t0 n0 g0
  have a1 : (Rp.mk 3 cum G []).ack cum now l 1 = ak0 := ack_one h n0
  exact ⟨quick_inv a1 i1 n0, (qR_one a1 i1 n0 _ 0 (Nat.zero_add _)).2⟩
theorem split_right (hG : GP Bs m G) (hc : 0 ≤ cum ∧ cum < 4294967296) (hm : m ≤ 60) : repE (Rp.mk 3 cum G []) cum m now = if now < 0 ∨ now > 1099511627776 then 1 else 0 := by
  have hr : rightE 3 cum cum m [G, []] = 0 := by
    unfold rightE
    rw [if_neg (by omega)]
    have ho : ordG G = true := by
      unfold ordG
      rw [List.all_eq_true]
      intro g hg
      obtain ⟨a1, a2, _⟩ := hG g hg
      simp only [decide_eq_true_eq]
      omega
    have ho2 : [G, []].all ordG = true := by rw [List.all_cons, List.all_cons, ho]; rfl
    rw [ho2, if_neg (by simp), sd_self, if_neg (by omega)]
    have hp : pastG (nxt cum m) cum G = false := by
      unfold pastG
      rw [List.any_eq_false]
      intro g hg
      obtain ⟨a1, a2, a3, a4, _⟩ := hG g hg
      simp only [decide_eq_true_eq]
      unfold sd nxt
      split <;> omega
    have hp2 : [G, []].any (pastG (nxt cum m) cum) = false := by rw [List.any_cons, List.any_cons, hp]; rfl
    rw [hp2, if_neg]
    rintro (h | h)
    · unfold sd nxt at h
      split at h <;> omega
    · cases h
  unfold repE
  have e1 : (Rp.mk 3 cum G []).nr = [] := by unfold Rp.nr; rw [if_neg (by show ¬ ((3 : Int) = 16); omega)]
  rw [e1]
  show (if rightE 3 cum cum m [G, []] = 172 then 172 else if now < 0 ∨ now > 1099511627776 then 1 else rightE 3 cum cum m [G, []]) = _
  rw [hr, if_neg (by omega)]
theorem l2_length (r : Rp) (cum now : Int) (l : List En) : (r.l2 cum now l).length = l.length := by
  unfold Rp.l2 Rp.l1 turnL
  rw [List.length_mapIdx, List.length_mapIdx]
end
end Go.Proofs.Ytmliokbonkndaaa
