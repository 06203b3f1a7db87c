/- Own text: part of the shallow reading of the code and of the contracts that are proved over it. -/
import Derived.Test.YtjcigidbnpmeaaaDoorSpL
namespace Go.Proofs.YtjcigidbnpmeaaaDoor
open Go Go.Sh Go.Sp

/-! the law SpansOrder -/
noncomputable def E23i : TypeInfo := (Tryd.prog.info? 24).getD default
theorem E23 : ElemT Tryd.prog 23 24 1 2 (.int .u16 0) E23i := ⟨by kernel_rfl, by kernel_rfl, by kernel_rfl, by kernel_rfl, by kernel_rfl, rfl, by decide⟩
def nums (cum : Int) (S : List Nat) : List Int := S.map fun (d : Nat) => (cum + (d : Int)) % 4294967296
theorem numV_nums (cum : Int) (S : List Nat) : numV cum S = (nums cum S).map (Value.int .u32) := by simp [numV, nums]
theorem nums_length (cum : Int) (S : List Nat) : (nums cum S).length = S.length := by simp [nums]
section
variable {n : Int} {X : List Int} {a : Option Addr} {cc : Nat}
theorem c3_loop {w0 : World} (hr : Rd w0 a (X.map (Value.int .u16))) (hl : X.length ≤ 300) {K0 : Value → Value → Value → World → Prop} : ∀ (j : Nat) (w : World) (f : Nat) (a' : Option Addr) (l c' : Nat), j ≤ X.length →
    Own w w0.heap.size 24 1 a' l c' ((X.drop j).reverse.map (Value.int .u16)) → Same w0 w → j < f →
    (∀ w' a' c', Own w' w0.heap.size 24 1 a' X.length c' (X.reverse.map (Value.int .u16)) → Same w0 w' → K0 (.int .u32 n) (.slice a X.length cc) (.slice a' X.length c') w') →
    F3_1 K0 f (.int .u32 n) (.slice a X.length cc) (.slice a' l c') (.int .i64 ((j : Int) - 1)) w := by
  intro j
  induction j with
  | zero =>
    intro w f a' l c' hj ho hf hlt hK
    obtain ⟨f, rfl⟩ : ∃ j, f = j + 1 := ⟨f - 1, by omega⟩
    show F3_1B _ _ _ _ _ _ _
    unfold F3_1B
    simp only [rdC_mk, rdI_mk, br_dec]
    refine ⟨fun h => by exfalso; omega, fun _ => ?_⟩
    have hll : l = X.length := by have := ho.length; simp at this; omega
    subst hll
    exact hK w a' c' (by simpa using ho) hf
  | succ j ih =>
    intro w f a' l c' hj ho hf hlt hK
    obtain ⟨f, rfl⟩ : ∃ j, f = j + 1 := ⟨f - 1, by omega⟩
    show F3_1B _ _ _ _ _ _ _
    unfold F3_1B alc
    simp only [rdC_mk, rdI_mk, br_dec]
    have hll : l = X.length - (j + 1) := by have := ho.length; simp at this; omega
    refine ⟨fun _ => ?_, fun h => by exfalso; omega⟩
    have e1 : ((j + 1 : Nat) : Int) - 1 = (j : Int) := by omega
    rw [e1]
    obtain ⟨x, hx⟩ : ∃ x, X[j]? = some x := ⟨X[j]'(by omega), by simp⟩
    have g : (X.map (Value.int .u16))[j]? = some (.int .u16 x) := by simp [hx]
    have hr' := Rd.same hr hf
    obtain ⟨ad, rfl⟩ := hr'.some (by simp; omega)
    refine ixS_of (by omega) (by omega) ?_
    simp only [Int.toNat_natCast, Nat.mul_one]
    refine ldI_c (hr'.at g) ?_
    refine push E23 ho (news := #[_]) rfl (by simp [Value.oneCell']) (by omega) (by omega) hf.size ?_
    intro a2 c2 w2 k1 k2 k3
    have e2 : IntKind.wrap .i64 ((j : Int) - 1) = (j : Int) - 1 := wrap_i64 (by omega) (by omega)
    rw [e2]
    refine ih w2 f a2 (l + 1) c2 (by omega) ?_ ?_ (by omega) hK
    · have : (X.drop j).reverse = (X.drop (j + 1)).reverse ++ [x] := by
        have hd : X.drop j = x :: X.drop (j + 1) := by
          rw [List.drop_eq_getElem_cons (by omega)]
          congr 1
          have := List.getElem?_eq_getElem (l := X) (i := j) (by omega)
          rw [this] at hx; cases hx; rfl
        rw [hd, List.reverse_cons]
      rw [this, List.map_append]
      exact k1
    · exact ((hf.mono (S' := fun k => w0.heap.size ≤ k) fun _ _ x => x.elim).trans k2 fun i _ x => (ho.base_le x).1).mono fun i hi x => by omega
theorem c3_2 {w : World} {Kr : Value → World → Prop} (ht : TB w) (hn0 : 0 ≤ n) (hn1 : n < 4294967296) (hX : ∀ x ∈ X, 0 ≤ x ∧ x ≤ 65535) (hr : Rd w a (X.map (Value.int .u16))) (hl : X.length ≤ 300)
    (hK : ∀ w', Same w w' → Kr (.bool true) w') : F3_2 Kr (.int .u32 n) (.slice a X.length cc) w := by
  unfold F3_2
  simp only [rdC_mk, rdI_mk]
  have e1 : IntKind.wrap .i64 ((X.length : Int) - 1) = (X.length : Int) - 1 := wrap_i64 (by omega) (by omega)
  rw [e1]
  refine ⟨X.length + 1, c3_loop (w0 := w) hr hl X.length w _ none 0 0 (Nat.le_refl _) (by simpa using Own.nil _ _ _ _) (Fr.refl w) (by omega) fun w1 a1 c1 o1 f1 _g => ?_⟩
  simp only [rdC_mk, rdI_mk]
  refine cl (c9 (ht.fr f1 fun x => x) hn0 hn1 hX (Rd.same hr f1)) ?_
  rintro _ w2 ⟨b, m, k, S, rfl, F2⟩
  refine ⟨_, _, rfl, ?_⟩
  have g2 : Same w w2 := f1.trans F2.fr fun _ _ x => x
  have hrev : Rd w2 a1 (X.reverse.map (Value.int .u16)) := Rd.same o1.rd F2.fr
  have := c9 (n := n) (X := X.reverse) (a := a1) (cc := c1) (ht.fr g2 fun x => x) hn0 hn1 (fun x hx => hX x (by simpa using hx)) hrev
  rw [List.length_reverse] at this
  refine cl this ?_
  rintro _ w3 ⟨b', m', k', S', rfl, F3⟩
  refine ⟨_, _, rfl, ?_⟩
  have g3 : Same w w3 := g2.trans F3.fr fun _ _ x => x
  simp only [br_true]
  have s3 := F2.set.same F3.fr
  refine clr (c10 s3) ⟨_, rfl, clr (c10 F3.set) ⟨_, rfl, ?_⟩⟩
  obtain ⟨rfl, rfl⟩ := F2.inn.uniq F3.inn fun x => by
    rw [List.take_of_length_le (by omega), List.take_of_length_le (by simp; omega)]; simp
  simp only [beq_self_eq_true, br_true]
  refine cl (c12 (ht.fr g3 fun x => x) s3) ?_
  rintro _ w4 ⟨a4, c4, rfl, o4, f4⟩
  refine ⟨_, _, _, rfl, ?_⟩
  have g4 : Same w w4 := g3.trans f4 fun _ _ x => x
  refine cl (c12 (ht.fr g4 fun x => x) (F3.set.same f4)) ?_
  rintro _ w5 ⟨a5, c5, rfl, o5, f5⟩
  refine ⟨_, _, _, rfl, ?_⟩
  have g5 : Same w w5 := g4.trans f5 fun _ _ x => x
  have r4 := Rd.same o4.rd f5
  have r5 := o5.rd
  rw [numV_nums] at r4 r5
  have := c11 (d1 := c4) (d2 := c5) r4 r5 (by rw [nums_length]; have := s3.len; omega)
  rw [nums_length] at this
  refine cl this ?_
  rintro _ w6 ⟨rfl, f6⟩
  refine ⟨_, rfl, ?_⟩
  have g6 : Same w w6 := g5.trans f6 fun _ _ x => x
  simp only [decide_true, br_true]
  refine cl (c13 (ht.fr g6 fun x => x)) ?_
  rintro _ w7 ⟨rfl, f7⟩
  exact ⟨_, rfl, hK w7 (g6.trans f7 fun _ _ x => x)⟩
theorem c3 {w : World} (ht : TB w) (hn0 : 0 ≤ n) (hn1 : n < 4294967296) (hX : ∀ x ∈ X, 0 ≤ x ∧ x ≤ 65535) (hr : Rd w a (X.map (Value.int .u16))) (hc : X.length ≤ cc) :
    Calls Tryd.prog 3 #[.int .u32 n, .slice a X.length cc] w (rt fun v w' => v = .bool true ∧ Same w w') := by
  refine F3_ok ?_
  unfold F3
  simp only [rdC_mk, rdI_mk, br_dec]
  refine ⟨fun h => ?_, fun h => ?_⟩
  · refine slS_hi (n := 300) (by omega) ?_
    have hl : (X.take 300).length = 300 := by rw [List.length_take]; omega
    have := c3_2 (n := n) (X := X.take 300) (a := a) (cc := cc) (Kr := fun y4_3 w5 => ∀ _g6 : Tm, rdB y4_3 fun b7 => (fun (v : Value) (w' : World) => v = Value.bool true ∧ Same w w') (.bool b7) w5) ht hn0 hn1 (fun x hx => hX x (List.mem_of_mem_take hx)) (fun j u hj => by
      refine hr j u ?_
      rw [List.map_take, List.getElem?_take] at hj
      split at hj
      · exact hj
      · cases hj) (by omega) fun w' hf _g => by simp only [rdB_mk]; exact ⟨trivial, hf⟩
    rw [hl] at this
    exact this
  · refine c3_2 ht hn0 hn1 hX hr (by omega) fun w' hf _g => ?_
    simp only [rdB_mk]
    exact ⟨trivial, hf⟩
end
end Go.Proofs.YtjcigidbnpmeaaaDoor
