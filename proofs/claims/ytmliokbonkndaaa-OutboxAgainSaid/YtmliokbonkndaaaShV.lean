/-
  What is told of path 0's chunks alone leaves path 1's as they were (plain).
-/
import Derived.Test.YtmliokbonkndaaaObN
import Derived.Test.YtmliokbonkndaaaShU
namespace Go.Proofs.Ytmliokbonkndaaa
open Go Go.Sh
/-- a chunk that was handed in -/
structure ChOk (W : World) (s : R30) (r : Rp) : Prop where
  kind : s.f0 = r.kind
  tsn : s.f2 = r.tsn
  t0 : 0 ≤ r.tsn ∧ r.tsn < 4294967296
  gl : s.f10n = r.G.length
  gr : Rd W s.f10a (gapV r.G)
  nl : s.f11n = r.NR.length
  nr : Rd W s.f11a (gapV r.NR)
  gok : gOk r.G ∧ r.G.length ≤ 140737488355328
  nok : gOk r.NR ∧ r.NR.length ≤ 140737488355328
def onOne (Bs : List Bool) (k : Nat) : Bool := Bs.getD k false
/-- chunks of path 1 lie as they were sent -/
def Inv (Bs : List Bool) (l : List En) : Prop := ∀ (k : Nat) e, l[k]? = some e → e.path = (if onOne Bs k = true then 1 else 0) ∧ e.data.length ≤ 70000 ∧ (e.path = 1 → e.st = 1 ∧ e.miss = 0 ∧ 0 ≤ e.sent)
def GP (Bs : List Bool) (m : Nat) (G : List Gp) : Prop := ∀ g ∈ G, g.1 = g.2 ∧ 1 ≤ g.1 ∧ g.1 ≤ (m : Int) ∧ g.1 ≤ 60 ∧ onOne Bs (g.1 - 1).toNat = false
theorem sd_self (a : Int) : sd a a = 0 := by unfold sd; simp
section
variable {Bs : List Bool} {l : List En} {t g v : Nat → Bool} {now : Int}
theorem Inv.one {k : Nat} {e : En} (h : Inv Bs l) (hk : l[k]? = some e) (hp : e.path = 1) : onOne Bs k = true := by
  have := (h k e hk).1
  rw [hp] at this
  by_cases h1 : onOne Bs k = true
  · exact h1
  · rw [if_neg h1] at this; omega
theorem turn_inv (h : Inv Bs l) (ht : ∀ k, t k = true → onOne Bs k = false) (hv : ∀ k, v k = true → onOne Bs k = false) (hg : ∀ k, g k = false) : Inv Bs (turnL t g v l) := by
  intro k e hk
  unfold turnL at hk
  rw [List.getElem?_mapIdx] at hk
  cases hl : l[k]? with
  | none => rw [hl] at hk; cases hk
  | some x =>
    rw [hl] at hk
    have hk : turnF (t k) (g k) (v k) x = e := by simpa using hk
    have hx := h k x hl
    have key : e.path = x.path ∧ e.data = x.data := by
      rw [← hk, hg k]
      unfold turnF
      simp only [Bool.false_eq_true, false_and, if_false]
      split
      · exact ⟨rfl, rfl⟩
      · split <;> exact ⟨rfl, rfl⟩
    rw [key.1, key.2]
    refine ⟨hx.1, hx.2.1, fun hp => ?_⟩
    have ho := h.one hl hp
    have e1 : v k = false := by
      cases hvk : v k with
      | false => rfl
      | true => rw [hv k hvk] at ho; cases ho
    have e2 : e = x := by
      rw [← hk, hg k, e1]
      unfold turnF
      have := (hx.2.2 hp).1
      simp [this]
    rw [e2]
    exact hx.2.2 hp
theorem ack_one (h : Inv Bs l) (hv : ∀ k, v k = true → onOne Bs k = false) : ackOut now v l 1 = ak0 := by
  have key : ∀ j, j ≤ l.length → (stj now v l j 1).1 = ak0 := by
    intro j
    induction j with
    | zero => intro _; rfl
    | succ j ih =>
      intro hj
      have hl : l[j]? = some (l[j]'(by omega)) := by simp
      have e1 : stj now v l (j + 1) 1 = akStep now 1 (stj now v l j 1) (l[j]'(by omega), v j) := by
        unfold stj
        rw [List.take_add_one, withF_at hl, List.foldl_append]
        rfl
      rw [e1]
      unfold akStep
      have ih := ih (by omega)
      split
      · rename_i hc
        have ho := h.one hl hc.2
        have e2 : v j = false := by
          cases hvk : v j with
          | false => rfl
          | true => rw [hv j hvk] at ho; cases ho
        simp only [e2, ih]
        have : (if (stj now v l j 1).2 = true then ak0.f1 else false) = false := by split <;> rfl
        rw [this]
        rfl
      · exact ih
  exact key _ (Nat.le_refl _)
theorem qR_one {F0 : Nat → R52} (hF : F0 1 = ak0) (h : Inv Bs l) (hv : ∀ k, v k = true → onOne Bs k = false) : ∀ (i j : Nat), j + i = l.length → (qS v F0 l j).1 1 = -1 ∧ (qS v F0 l j).2 1 = ak0 := by
  intro i
  induction i with
  | zero =>
    intro j hj
    unfold qS
    rw [List.drop_eq_nil_of_le (by omega)]
    exact ⟨rfl, hF⟩
  | succ i ih =>
    intro j hj
    have hl : l[j]? = some (l[j]'(by omega)) := by simp
    obtain ⟨e, he⟩ : ∃ e, e = l[j]'(by omega) := ⟨_, rfl⟩
    rw [← he] at hl
    obtain ⟨i1, i2⟩ := ih (j + 1) (by omega)
    rw [qS_step hl]
    have hx := h j e hl
    constructor
    · show latS (v j) e (qS v F0 l (j + 1)).1 1 = -1
      unfold latS
      split
      · rename_i hc
        have ho := h.one hl hc.2
        rw [hv j hc.1] at ho; cases ho
      · exact i1
    · show (if mkdB (bqk (qS v F0 l (j + 1)).1 e) e = true then _ else _ : Nat → R52) 1 = ak0
      split
      · rename_i hm
        have hp : e.path ≠ 1 := by
          intro hp
          have h3 := (hx.2.2 hp).2.2
          have hb : bqk (qS v F0 l (j + 1)).1 e = true := by
            unfold mkdB at hm
            cases hb : bqk (qS v F0 l (j + 1)).1 e with
            | true => rfl
            | false => rw [hb] at hm; simp at hm
          unfold bqk at hb
          rw [hp] at hb
          simp only [show (1 : Int).toNat = 1 from rfl, i1, Bool.and_eq_true, decide_eq_true_eq] at hb
          omega
        unfold withL
        rw [if_neg ?_]
        · exact i2
        · have := hx.1
          intro h1
          apply hp
          split at this
          · exact this
          · rw [this] at h1; cases h1
      · exact i2
theorem quick_inv {F0 : Nat → R52} (hF : F0 1 = ak0) (h : Inv Bs l) (hv : ∀ k, v k = true → onOne Bs k = false) : Inv Bs (l.mapIdx (quickL v F0 l)) := by
  intro k e hk
  rw [List.getElem?_mapIdx] at hk
  cases hl : l[k]? with
  | none => rw [hl] at hk; cases hk
  | some x =>
    rw [hl] at hk
    have hk : quickL v F0 l k x = e := by simpa using hk
    have hx := h k x hl
    obtain ⟨p1, _, p3⟩ := quickF_path (bqk (qS v F0 l (k + 1)).1 x) x
    have hk' : quickF (bqk (qS v F0 l (k + 1)).1 x) x = e := hk
    rw [hk'] at p1 p3
    rw [p1, p3]
    refine ⟨hx.1, hx.2.1, fun hp => ?_⟩
    have hlt := (List.getElem?_eq_some_iff.1 hl).1
    have i1 := (qR_one hF h hv (l.length - (k + 1)) (k + 1) (by omega)).1
    have hb : bqk (qS v F0 l (k + 1)).1 x = false := by
      unfold bqk
      rw [hp, show (1 : Int).toNat = 1 from rfl, i1]
      have := (hx.2.2 hp).2.2
      have : ¬ ((-1 : Int) ≥ x.sent) := by omega
      simp [this]
    rw [hb] at hk'
    rw [← hk']
    exact hx.2.2 hp
end
section
variable {Bs : List Bool} {l : List En} {G : List Gp} {cum now : Int} {m : Nat}
theorem split_told (hG : GP Bs m G) : (∀ k, (Rp.mk 3 cum G []).told cum k = true → onOne Bs k = false) ∧ (∀ k, (Rp.mk 3 cum G []).good cum k = false) ∧ (∀ k, (Rp.mk 3 cum G []).newly cum l k = true → onOne Bs k = false) := by
  have g0 : ∀ k, (Rp.mk 3 cum G []).good cum k = false := by
    intro k
    unfold Rp.good Rp.n0 Rp.nr goodF ins
    simp only [sd_self]
    rw [if_neg (by omega)]
    simp
  have t0 : ∀ k, (Rp.mk 3 cum G []).told cum k = true → onOne Bs k = false := by
    intro k hk
    have hk : (goodF ((Rp.mk 3 cum G []).n0 cum) (Rp.mk 3 cum G []).nr k || ins G ((k : Int) + 1 - (Rp.mk 3 cum G []).n0 cum)) = true := hk
    have h1 : goodF ((Rp.mk 3 cum G []).n0 cum) (Rp.mk 3 cum G []).nr k = false := g0 k
    rw [h1, Bool.false_or] at hk
    unfold Rp.n0 at hk
    simp only [sd_self] at hk
    unfold ins at hk
    rw [List.any_eq_true] at hk
    obtain ⟨x, hx, hk⟩ := hk
    simp only [decide_eq_true_eq] at hk
    obtain ⟨a1, a2, a3, a4, a5⟩ := hG x hx
    rw [show (x.1 - 1).toNat = k by omega] at a5
    exact a5
  refine ⟨t0, g0, fun k hk => ?_⟩
  unfold Rp.newly newF at hk
  rw [Bool.and_eq_true] at hk
  exact t0 k hk.1
theorem split_inv (hG : GP Bs m G) (h : Inv Bs l) : Inv Bs ((Rp.mk 3 cum G []).l2 cum now l) ∧ (Rp.mk 3 cum G []).paths cum now l 1 = ak0 := by
  obtain ⟨t0, g0, n0⟩ := split_told (l := l) (cum := cum) hG
  have i1 : Inv Bs ((Rp.mk 3 cum G []).l1 cum l) := turn_inv h t0 n0 g0
  have a1 : (Rp.mk 3 cum G []).ack cum now l 1 = ak0 := ack_one h n0
  exact ⟨quick_inv a1 i1 n0, (qR_one a1 i1 n0 _ 0 (Nat.zero_add _)).2⟩
theorem split_right (hG : GP Bs m G) (hc : 0 ≤ cum ∧ cum < 4294967296) (hm : m ≤ 60) : repE (Rp.mk 3 cum G []) cum m now = if now < 0 ∨ now > 1099511627776 then 1 else 0 := by
  have hr : rightE 3 cum cum m [G, []] = 0 := by
    unfold rightE
    rw [if_neg (by omega)]
    have ho : ordG G = true := by
      unfold ordG
      rw [List.all_eq_true]
      intro g hg
      obtain ⟨a1, a2, _⟩ := hG g hg
      simp only [decide_eq_true_eq]
      omega
    have ho2 : [G, []].all ordG = true := by rw [List.all_cons, List.all_cons, ho]; rfl
    rw [ho2, if_neg (by simp), sd_self, if_neg (by omega)]
    have hp : pastG (nxt cum m) cum G = false := by
      unfold pastG
      rw [List.any_eq_false]
      intro g hg
      obtain ⟨a1, a2, a3, a4, _⟩ := hG g hg
      simp only [decide_eq_true_eq]
      unfold sd nxt
      split <;> omega
    have hp2 : [G, []].any (pastG (nxt cum m) cum) = false := by rw [List.any_cons, List.any_cons, hp]; rfl
    rw [hp2, if_neg]
    rintro (h | h)
    · unfold sd nxt at h
      split at h <;> omega
    · cases h
  unfold repE
  have e1 : (Rp.mk 3 cum G []).nr = [] := by unfold Rp.nr; rw [if_neg (by show ¬ ((3 : Int) = 16); omega)]
  rw [e1]
  show (if rightE 3 cum cum m [G, []] = 172 then 172 else if now < 0 ∨ now > 1099511627776 then 1 else rightE 3 cum cum m [G, []]) = _
  rw [hr, if_neg (by omega)]
theorem l2_length (r : Rp) (cum now : Int) (l : List En) : (r.l2 cum now l).length = l.length := by
  unfold Rp.l2 Rp.l1 turnL
  rw [List.length_mapIdx, List.length_mapIdx]
end
end Go.Proofs.Ytmliokbonkndaaa
namespace Go.Sh
open Go
def okFs (P : Program) : Nat → List Field → List Kd → Bool
  | _, [], [] => true
  | i, f :: fs, k :: ks => f.name != "_" && P.plainKey f.type && Nat.beq f.offset i &&
      (match P.underlying f.type, k with | some (.int _), .int _ => true | some .bool, .bool => true | some .string, .str => true | _, _ => false) && okFs P (i + 1) fs ks
  | _, _, _ => false
def flT (P : Program) (t : TypeId) (ks : List Kd) : Bool :=
  (match P.underlying t with | some (.struct _) => true | _ => false) && !P.stoodInHeld t && !P.eqGuardType P.depth t && okFs P 0 (P.fieldsOf t).toList ks
def mK : Kd → Value → Prop
  | .int k, v => ∃ n, v = .int k n
  | .bool, v => ∃ b, v = .bool b
  | .str, v => ∃ s, v = .string s
  | _, _ => False
def mL : List Kd → List Value → Prop
  | [], [] => True
  | k :: ks, v :: vs => mK k v ∧ mL ks vs
  | _, _ => False
def eqv : Value → Value → Bool
  | .int _ a, .int _ b => a == b
  | .bool a, .bool b => a == b
  | .string a, .string b => a.toList == b.toList
  | _, _ => false
def eqvs (vs us : List Value) : Bool := (vs.zip us).all fun p => eqv p.1 p.2
section
variable {P : Program} {w : World}
theorem eqF_one {d : Nat} {xs ys : Array Value} {f : Field} {fs : List Field} {a b : Value} {k : Kd} (hn : f.name ≠ "_") (hp : P.plainKey f.type = true) (hk : (match P.underlying f.type, k with | some (.int _), .int _ => true | some .bool, .bool => true | some .string, .str => true | _, _ => false) = true)
    (ha : mK k a) (hb : mK k b) (hx : xs[f.offset]? = some a) (hy : ys[f.offset]? = some b) :
    (Op.eqFields (d + 2) xs ys (f :: fs)).run P w = if eqv a b then (Op.eqFields (d + 2) xs ys fs).run P w else .ok false w := by
  rw [Op.eqFields, if_pos hn]
  have he : (Op.equalIn (d + 2) f.type a b).run P w = .ok (eqv a b) w := by
    split at hk
    · rename_i kk hu
      obtain ⟨n, rfl⟩ := ha
      obtain ⟨m, rfl⟩ := hb
      exact run_equalIn_int w (d + 1) f.type _ _ n m hu
    · rename_i hu
      obtain ⟨n, rfl⟩ := ha
      obtain ⟨m, rfl⟩ := hb
      exact run_equalIn_bool w (d + 1) f.type n m hu
    · rename_i hu
      obtain ⟨n, rfl⟩ := ha
      obtain ⟨m, rfl⟩ := hb
      exact run_equalIn_string w (d + 1) f.type n m hu
    · cases hk
  simp only [Sem.run_bind, run_part_plain w hp hx, run_part_plain w hp hy, Result.andThen_ok, he]
  by_cases h : eqv a b = true
  · rw [h]; simp
  · rw [Bool.not_eq_true] at h; rw [h]; simp
theorem eqF_all {d : Nat} {xs ys : Array Value} : ∀ (fs : List Field) (ks : List Kd) (i : Nat) (vs us : List Value), okFs P i fs ks = true → mL ks vs → mL ks us → xs.toList.drop i = vs → ys.toList.drop i = us → (Op.eqFields (d + 2) xs ys fs).run P w = .ok (eqvs vs us) w
  | [], [], i, [], [], _, _, _, _, _ => rfl
  | [], [], i, _ :: _, _, _, h, _, _, _ => h.elim
  | [], [], i, [], _ :: _, _, _, h, _, _ => h.elim
  | [], _ :: _, i, _, _, h, _, _, _, _ => by cases h
  | _ :: _, [], i, _, _, h, _, _, _, _ => by cases h
  | f :: fs, k :: ks, i, [], _, _, h, _, _, _ => h.elim
  | f :: fs, k :: ks, i, _ :: _, [], _, _, h, _, _ => h.elim
  | f :: fs, k :: ks, i, v :: vs, u :: us, h, hv, hu, ex, ey => by
    simp only [okFs, Bool.and_eq_true] at h
    obtain ⟨⟨⟨⟨h1, h2⟩, h3⟩, h4⟩, h5⟩ := h
    have ho : f.offset = i := Nat.eq_of_beq_eq_true h3
    have hx : xs[f.offset]? = some v := by
      rw [ho, ← Array.getElem?_toList]
      have := congrArg (·[0]?) ex
      simpa using this
    have hy : ys[f.offset]? = some u := by
      rw [ho, ← Array.getElem?_toList]
      have := congrArg (·[0]?) ey
      simpa using this
    rw [eqF_one (by simpa using h1) h2 h4 hv.1 hu.1 hx hy]
    have ex' : xs.toList.drop (i + 1) = vs := by rw [← List.drop_drop, ex]; rfl
    have ey' : ys.toList.drop (i + 1) = us := by rw [← List.drop_drop, ey]; rfl
    rw [eqF_all fs ks (i + 1) vs us h5 hv.2 hu.2 ex' ey']
    unfold eqvs
    rw [List.zip_cons_cons, List.all_cons]
    cases eqv v u <;> rfl
theorem eq_flat {t : TypeId} {ks : List Kd} {vs us : List Value} (h : flT P t ks = true) (hv : mL ks vs) (hu : mL ks us) : (Op.equalIn 10000 t (.agg vs.toArray) (.agg us.toArray)).run P w = .ok (eqvs vs us) w := by
  unfold flT at h
  simp only [Bool.and_eq_true] at h
  obtain ⟨⟨⟨h1, h2⟩, h3⟩, h4⟩ := h
  have ht : P.underlying t = some (.struct (P.fieldsOf t)) := by
    unfold Program.fieldsOf
    split at h1
    · rename_i e; rw [e]
    · cases h1
  rw [show (10000 : Nat) = 9999 + 1 from rfl, run_equalIn_agg w 9999 t _ _ ht (by simpa using h2), show (9999 : Nat) = 9997 + 2 from rfl]
  exact eqF_all _ ks 0 vs us h4 hv hu (by simp) (by simp)
theorem neq_flat {t : TypeId} {ks : List Kd} {x y : Operand} {vs us : List Value} (h : flT P t ks = true) (hv : mL ks vs) (hu : mL ks us) : Sem.run P (binF P .neq t x y (.agg vs.toArray) (.agg us.toArray)) w = .ok (.bool (!eqvs vs us)) w := by
  have h0 := h
  unfold flT at h
  simp only [Bool.and_eq_true] at h
  unfold binF
  simp only [Sem.run_bind, run_eqGuard_agg w _ t x y _ _ (by simpa using h.1.2), Result.andThen_ok, run_neq_struct]
  rw [eq_flat h0 hv hu]
  rfl
theorem eql_flat {t : TypeId} {ks : List Kd} {x y : Operand} {vs us : List Value} (h : flT P t ks = true) (hv : mL ks vs) (hu : mL ks us) : Sem.run P (binF P .eql t x y (.agg vs.toArray) (.agg us.toArray)) w = .ok (.bool (eqvs vs us)) w := by
  have h0 := h
  unfold flT at h
  simp only [Bool.and_eq_true] at h
  unfold binF
  simp only [Sem.run_bind, run_eqGuard_agg w _ t x y _ _ (by simpa using h.1.2), Result.andThen_ok, run_eql_struct]
  rw [eq_flat h0 hv hu]
  rfl
theorem eqvs_self : ∀ {ks : List Kd} {vs : List Value}, mL ks vs → eqvs vs vs = true
  | [], [], _ => rfl
  | [], _ :: _, h => h.elim
  | _ :: _, [], h => h.elim
  | k :: ks, v :: vs, h => by
    have ih := eqvs_self h.2
    unfold eqvs at ih ⊢
    rw [List.zip_cons_cons, List.all_cons, ih, Bool.and_true]
    have := h.1
    cases k <;> first | exact this.elim | (obtain ⟨n, rfl⟩ := this; simp [eqv])
end
end Go.Sh
