/-
  Comparing structs of whole numbers, bools and strings.
-/
import Derived.Test.YtdagfdejjfobhaaShU
namespace Go.Sh
open Go
def okFs (P : Program) : Nat → List Field → List Kd → Bool
  | _, [], [] => true
  | i, f :: fs, k :: ks => f.name != "_" && P.plainKey f.type && Nat.beq f.offset i &&
      (match P.underlying f.type, k with | some (.int _), .int _ => true | some .bool, .bool => true | some .string, .str => true | _, _ => false) && okFs P (i + 1) fs ks
  | _, _, _ => false
def flT (P : Program) (t : TypeId) (ks : List Kd) : Bool :=
  (match P.underlying t with | some (.struct _) => true | _ => false) && !P.stoodInHeld t && !P.eqGuardType P.depth t && okFs P 0 (P.fieldsOf t).toList ks
def mK : Kd → Value → Prop
  | .int k, v => ∃ n, v = .int k n
  | .bool, v => ∃ b, v = .bool b
  | .str, v => ∃ s, v = .string s
  | _, _ => False
def mL : List Kd → List Value → Prop
  | [], [] => True
  | k :: ks, v :: vs => mK k v ∧ mL ks vs
  | _, _ => False
def eqv : Value → Value → Bool
  | .int _ a, .int _ b => a == b
  | .bool a, .bool b => a == b
  | .string a, .string b => a.toList == b.toList
  | _, _ => false
def eqvs (vs us : List Value) : Bool := (vs.zip us).all fun p => eqv p.1 p.2
section
variable {P : Program} {w : World}
theorem eqF_one {d : Nat} {xs ys : Array Value} {f : Field} {fs : List Field} {a b : Value} {k : Kd} (hn : f.name ≠ "_") (hp : P.plainKey f.type = true) (hk : (match P.underlying f.type, k with | some (.int _), .int _ => true | some .bool, .bool => true | some .string, .str => true | _, _ => false) = true)
    (ha : mK k a) (hb : mK k b) (hx : xs[f.offset]? = some a) (hy : ys[f.offset]? = some b) :
    (Op.eqFields (d + 2) xs ys (f :: fs)).run P w = if eqv a b then (Op.eqFields (d + 2) xs ys fs).run P w else .ok false w := by
  rw [Op.eqFields, if_pos hn]
  have he : (Op.equalIn (d + 2) f.type a b).run P w = .ok (eqv a b) w := by
    split at hk
    · rename_i kk hu
      obtain ⟨n, rfl⟩ := ha
      obtain ⟨m, rfl⟩ := hb
      exact run_equalIn_int w (d + 1) f.type _ _ n m hu
    · rename_i hu
      obtain ⟨n, rfl⟩ := ha
      obtain ⟨m, rfl⟩ := hb
      exact run_equalIn_bool w (d + 1) f.type n m hu
    · rename_i hu
      obtain ⟨n, rfl⟩ := ha
      obtain ⟨m, rfl⟩ := hb
      exact run_equalIn_string w (d + 1) f.type n m hu
    · cases hk
  simp only [Sem.run_bind, run_part_plain w hp hx, run_part_plain w hp hy, Result.andThen_ok, he]
  by_cases h : eqv a b = true
  · rw [h]; simp
  · rw [Bool.not_eq_true] at h; rw [h]; simp
theorem eqF_all {d : Nat} {xs ys : Array Value} : ∀ (fs : List Field) (ks : List Kd) (i : Nat) (vs us : List Value), okFs P i fs ks = true → mL ks vs → mL ks us → xs.toList.drop i = vs → ys.toList.drop i = us → (Op.eqFields (d + 2) xs ys fs).run P w = .ok (eqvs vs us) w
  | [], [], i, [], [], _, _, _, _, _ => rfl
  | [], [], i, _ :: _, _, _, h, _, _, _ => h.elim
  | [], [], i, [], _ :: _, _, _, h, _, _ => h.elim
  | [], _ :: _, i, _, _, h, _, _, _, _ => by cases h
  | _ :: _, [], i, _, _, h, _, _, _, _ => by cases h
  | f :: fs, k :: ks, i, [], _, _, h, _, _, _ => h.elim
  | f :: fs, k :: ks, i, _ :: _, [], _, _, h, _, _ => h.elim
  | f :: fs, k :: ks, i, v :: vs, u :: us, h, hv, hu, ex, ey => by
    simp only [okFs, Bool.and_eq_true] at h
    obtain ⟨⟨⟨⟨h1, h2⟩, h3⟩, h4⟩, h5⟩ := h
    have ho : f.offset = i := Nat.eq_of_beq_eq_true h3
    have hx : xs[f.offset]? = some v := by
      rw [ho, ← Array.getElem?_toList]
      have := congrArg (·[0]?) ex
      simpa using this
    have hy : ys[f.offset]? = some u := by
      rw [ho, ← Array.getElem?_toList]
      have := congrArg (·[0]?) ey
      simpa using this
    rw [eqF_one (by simpa using h1) h2 h4 hv.1 hu.1 hx hy]
    have ex' : xs.toList.drop (i + 1) = vs := by rw [← List.drop_drop, ex]; rfl
    have ey' : ys.toList.drop (i + 1) = us := by rw [← List.drop_drop, ey]; rfl
    rw [eqF_all fs ks (i + 1) vs us h5 hv.2 hu.2 ex' ey']
    unfold eqvs
    rw [List.zip_cons_cons, List.all_cons]
    cases eqv v u <;> rfl
theorem eq_flat {t : TypeId} {ks : List Kd} {vs us : List Value} (h : flT P t ks = true) (hv : mL ks vs) (hu : mL ks us) : (Op.equalIn 10000 t (.agg vs.toArray) (.agg us.toArray)).run P w = .ok (eqvs vs us) w := by
  unfold flT at h
  simp only [Bool.and_eq_true] at h
  obtain ⟨⟨⟨h1, h2⟩, h3⟩, h4⟩ := h
  have ht : P.underlying t = some (.struct (P.fieldsOf t)) := by
    unfold Program.fieldsOf
    split at h1
    · rename_i e; rw [e]
    · cases h1
  rw [show (10000 : Nat) = 9999 + 1 from rfl, run_equalIn_agg w 9999 t _ _ ht (by simpa using h2), show (9999 : Nat) = 9997 + 2 from rfl]
  exact eqF_all _ ks 0 vs us h4 hv hu (by simp) (by simp)
theorem neq_flat {t : TypeId} {ks : List Kd} {x y : Operand} {vs us : List Value} (h : flT P t ks = true) (hv : mL ks vs) (hu : mL ks us) : Sem.run P (binF P .neq t x y (.agg vs.toArray) (.agg us.toArray)) w = .ok (.bool (!eqvs vs us)) w := by
  have h0 := h
  unfold flT at h
  simp only [Bool.and_eq_true] at h
  unfold binF
  simp only [Sem.run_bind, run_eqGuard_agg w _ t x y _ _ (by simpa using h.1.2), Result.andThen_ok, run_neq_struct]
  rw [eq_flat h0 hv hu]
  rfl
theorem eql_flat {t : TypeId} {ks : List Kd} {x y : Operand} {vs us : List Value} (h : flT P t ks = true) (hv : mL ks vs) (hu : mL ks us) : Sem.run P (binF P .eql t x y (.agg vs.toArray) (.agg us.toArray)) w = .ok (.bool (eqvs vs us)) w := by
  have h0 := h
  unfold flT at h
  simp only [Bool.and_eq_true] at h
  unfold binF
  simp only [Sem.run_bind, run_eqGuard_agg w _ t x y _ _ (by simpa using h.1.2), Result.andThen_ok, run_eql_struct]
  rw [eq_flat h0 hv hu]
  rfl
theorem eqvs_self : ∀ {ks : List Kd} {vs : List Value}, mL ks vs → eqvs vs vs = true
  | [], [], _ => rfl
  | [], _ :: _, h => h.elim
  | _ :: _, [], h => h.elim
  | k :: ks, v :: vs, h => by
    have ih := eqvs_self h.2
    unfold eqvs at ih ⊢
    rw [List.zip_cons_cons, List.all_cons, ih, Bool.and_true]
    have := h.1
    cases k <;> first | exact this.elim | (obtain ⟨n, rfl⟩ := this; simp [eqv])
end
end Go.Sh
