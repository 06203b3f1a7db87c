/-
  New tables; chunks made; numbers compared.
-/
import Derived.Test.YtaflmpbeonoilaaRmO
namespace Go.Proofs.Ytaflmpbeonoilaa
open Go Go.Sh Go.RowKit
def newS (n : Nat) (lim : Int) : St := ⟨lim, [], [], List.replicate n 0, [], []⟩
theorem newS_tot (n : Nat) (lim : Int) : tot (newS n lim) = 0 := rfl
theorem newS_ok (n : Nat) (lim : Int) : OkB (newS n lim) := ⟨⟨by simp [newS, keys], by simp [newS], by simp [newS], by simp [newS], by simp [newS], by simp [newS], by simp [newS], by simp [newS], by rw [newS_tot]; omega⟩, by simp [newS], by simp [newS]⟩
theorem zeros16 (n : Nat) : (madeCells (Value.int .u16 0).cells (n * 1)).toList = inV .u16 (List.replicate n 0) := by
  apply List.ext_getElem?
  intro i
  by_cases hi : i < n
  · rw [inV_at (x := 0) (by simp [hi])]
    simp [madeCells, Value.cells, Nat.mod_one, hi]
  · rw [List.getElem?_eq_none (by simp [madeCells]; omega), List.getElem?_eq_none (by rw [inV_length]; simp; omega)]
section
variable {W w : World} {L M Z : List HP} {tb mc mf : Nat} {hd : Int} {d : TD} {s : St} {es : List Ec} {F : List Int} {c : Ch}
theorem c9_bad {n1 n2 : Int} (hb : n1 < 1 ∨ 1024 < n1 ∨ n2 < 1 ∨ 1073741824 < n2) (w : World) : Calls Try.prog 9 #[.int .i64 n1, .int .i64 n2] w (rt (KR (.tuple #[.pointer none, .int .i64 1]) w)) := by
  refine F9_ok ?_
  unfold F9
  simp only [rdI_mk, br_dec]
  refine ⟨fun _ => KR.mk _ _, fun h1 => ⟨fun _ => KR.mk _ _, fun h2 => ⟨fun _ => KR.mk _ _, fun h3 => ⟨fun _ => KR.mk _ _, fun h4 => ?_⟩⟩⟩⟩
  exfalso; omega
theorem alc_mapv {K : Nat → World → Prop} (h : Hs W L w) (hk : ∀ m w', Hs W (mapV .u32 m (fun _ => none) :: L) w' → K m w') : alc (.map #[] 0) w K := hk _ _ (h.mapv_new .u32)
theorem c9 {n : Nat} {n2 : Int} (hn : 1 ≤ n ∧ n ≤ 1024) (h2 : 1 ≤ n2 ∧ n2 ≤ 1073741824) (h : Hs W L w) : Calls Try.prog 9 #[.int .i64 (n : Int), .int .i64 n2] w (rt fun v w' => ∃ tb, v = .tuple #[.pointer (some ⟨tb, 0, none⟩), .int .i64 0] ∧ Hs W (tabP tb (tot (newS n n2)) (newS n n2) :: L) w') := by
  refine F9_ok ?_
  unfold F9
  simp only [rdI_mk, br_dec]
  refine ⟨fun _ => by exfalso; omega, fun _ => ⟨fun _ => by exfalso; omega, fun _ => ⟨fun _ => by exfalso; omega, fun _ => ⟨fun _ => by exfalso; omega, fun _ => ?_⟩⟩⟩⟩
  unfold F9_1
  simp only [rdI_mk]
  refine alc_mapv h fun mc w1 h3 => alc_mapv h3 fun mf w2 h4 => ?_
  refine h4.make (n := n) E46 (show n * 1 ≤ 16777216 by omega) (show 2 * n ≤ 281474976710656 by omega) (show n ≤ 281474976710656 by omega) fun na w3 h5 _ => ?_
  rw [zeros16] at h5
  refine h5.alc fun tb w4 h6 => ?_
  intro _g
  simp only [rdP_mk]
  refine ⟨tb, by first | rfl | trivial, ?_⟩
  obtain ⟨d, hd⟩ : ∃ d : TD, d = ⟨mc, mf, na, n, [], [], none, 0, [], none, 0⟩ := ⟨_, rfl⟩
  refine tab_shut (d := d) ⟨by subst hd; rfl, by subst hd; rfl, by subst hd; rfl⟩ ?_
  have k1 : Hs W (pt tb (.cells (R69.mk (some mc) (some mf) 0 na n n n2 none 0 0 none 0 0).c 70 (0, 0)) :: slP 31 1 na n n (inV .u16 (List.replicate n 0)) :: mapV .u32 mf (fun _ => none) :: mapV .u32 mc (fun _ => none) :: L) w4 := h6
  have k2 := ((k1.nil 33 1).nil 39 5)
  have k3 : Hs W (bigS [] :: bigS [] :: bigS [] :: slP 39 5 none 0 0 [] :: slP 33 1 none 0 0 [] :: pt tb (.cells (R69.mk (some mc) (some mf) 0 na n n n2 none 0 0 none 0 0).c 70 (0, 0)) :: slP 31 1 na n n (inV .u16 (List.replicate n 0)) :: mapV .u32 mf (fun _ => none) :: mapV .u32 mc (fun _ => none) :: L) w4 :=
    Hs.cons_emp.2 (Hs.cons_emp.2 (Hs.cons_emp.2 k2))
  have k4 := k3.toO 3 rfl
  have e1 : cMap ([] : List Ec) = fun _ => none := rfl
  have e2 : fMap ([] : List Int) = fun _ => none := by funext k; simp [fMap]
  subst hd
  unfold tabL newS
  simp only [List.length_replicate, List.map_nil, e1, e2]
  have hnl : (List.replicate n (0 : Int)).length = n := by simp
  unfold tabC
  simp only [List.length_replicate, List.length_nil]
  refine k4.perm ?_
  let A : List HP := [bigS [], bigS [], bigS [], slO 39 5 none 0 0 [], slP 33 1 none 0 0 []]
  let T : HP := pt tb (.cells (R69.mk (some mc) (some mf) 0 na n n n2 none 0 0 none 0 0).c 70 (0, 0))
  let N : HP := slP 31 1 na n n (inV .u16 (List.replicate n 0))
  let X : HP := mapV .u32 mf (fun _ => none)
  let Y : HP := mapV .u32 mc (fun _ => none)
  have p1 : (A ++ T :: N :: X :: Y :: L).Perm ([T, N, X, Y] ++ (A ++ L)) := by
    have := (List.perm_append_comm (l₁ := A) (l₂ := [T, N, X, Y])).append_right L
    simpa using this
  have p2 : ([T, N, X, Y] ++ (A ++ L)).Perm (T :: Y :: X :: N :: slP 33 1 none 0 0 [] :: slO 39 5 none 0 0 [] :: bigS [] :: bigS [] :: bigS [] :: L) := by
    refine List.Perm.cons T ?_
    have q1 : [N, X, Y].Perm [Y, X, N] := (List.reverse_perm [N, X, Y]).symm
    have q2 : A.Perm [slP 33 1 none 0 0 [], slO 39 5 none 0 0 [], bigS [], bigS [], bigS []] := (List.reverse_perm A).symm
    exact q1.append (q2.append_right L)
  exact p1.trans p2
theorem c12 (t f st ssn : Int) (a : Option Addr) (n cc : Nat) (w : World) : Calls Try.prog 12 #[.int .u32 t, .int .u8 f, .int .u16 st, .int .u16 ssn, .slice a n cc] w (rt fun v w' => v = (R35.mk 0 f t st ssn 0 0 0 0 0 none 0 0 none 0 0 none 0 0 a n cc none 0 0).v ∧ Same w w') := by
  refine F12_ok ?_
  unfold F12
  simp only [rdI_mk, rdC_mk]
  refine (Hs.start w).alc fun b w1 h1 => ?_
  refine h1.stcL 0 rfl rfl fun w2 h2 => ?_
  refine ldR35_of (s := R35.mk 0 f t st ssn 0 0 0 0 0 none 0 0 none 0 0 none 0 0 a n cc none 0 0) (h2.atL 0 rfl) ?_
  exact ⟨rfl, h2.old⟩
/-- two lists of numbers are compared -/
theorem c15 {a b : Option Addr} {x y : List Int} {ca cb : Nat} (ha : Rd w a (inV .u32 x)) (hb : Rd w b (inV .u32 y)) (hl : x.length ≤ 4294967296) : Calls Try.prog 15 #[.slice a x.length ca, .slice b y.length cb] w (rt fun v w' => v = .bool (decide (x = y)) ∧ Same w w') := by
  refine F15_ok ?_
  unfold F15
  simp only [rdC_mk]
  by_cases he : x.length = y.length
  · have e0 : ((x.length : Int) != (y.length : Int)) = false := by rw [he]; simp
    rw [e0, br_false]
    have loop : ∀ (i j : Nat) (w1 : World) (k : Nat) (K0 : World → Prop) (Kr : Value → World → Prop), j + i = x.length → x.take j = y.take j → Same w w1 → i < k → (x = y → ∀ w', Same w w' → K0 w') → (x ≠ y → ∀ w', Same w w' → Kr (.bool false) w') →
        F15_1 K0 Kr k (.slice a x.length ca) (.slice b y.length cb) (.int .i64 (j : Int)) w1 := by
      intro i
      induction i with
      | zero =>
        intro j w1 k K0 Kr hj ht hs hk h0 h1
        obtain ⟨k, rfl⟩ : ∃ j, k = j + 1 := ⟨k - 1, by omega⟩
        show F15_1B _ _ _ _ _ _ _
        unfold F15_1B
        simp only [rdC_mk, rdI_mk, br_dec]
        refine ⟨fun hlt => by exfalso; omega, fun _ => h0 ?_ _ hs⟩
        rw [List.take_of_length_le (by omega), List.take_of_length_le (by omega)] at ht
        exact ht
      | succ i ih =>
        intro j w1 k K0 Kr hj ht hs hk h0 h1
        obtain ⟨k, rfl⟩ : ∃ j, k = j + 1 := ⟨k - 1, by omega⟩
        show F15_1B _ _ _ _ _ _ _
        unfold F15_1B
        simp only [rdC_mk, rdI_mk, br_dec]
        refine ⟨fun _ => ?_, fun hlt => by exfalso; omega⟩
        unfold drw
        have hs' := hs.trans (Fr.refl w1).drew fun _ _ x => x
        obtain ⟨u, hu⟩ : ∃ u, x[j]? = some u := ⟨x[j]'(by omega), by simp⟩
        obtain ⟨v, hv⟩ : ∃ v, y[j]? = some v := ⟨y[j]'(by omega), by simp⟩
        have ha1 := ha.fr hs' fun _ _ x => x
        have hb1 := hb.fr hs' fun _ _ x => x
        obtain ⟨ad, had⟩ := ha1.some (by rw [inV_length]; omega)
        obtain ⟨bd, hbd⟩ := hb1.some (by rw [inV_length]; omega)
        rw [had] at ha1
        rw [hbd] at hb1
        rw [had, hbd]
        refine ixS_to rfl (by omega) ?_
        rw [Nat.mul_one]
        refine ldI_c (ha1.at (inV_at hu)) ?_
        refine ixS_to rfl (by omega) ?_
        rw [Nat.mul_one]
        refine ldI_c (hb1.at (inV_at hv)) ?_
        rw [br_iff]
        refine ⟨fun hne => h1 (fun e => ?_) _ hs', fun hne => ?_⟩
        · rw [e, hv] at hu
          cases hu
          simp at hne
        · have e : u = v := by simpa using hne
          have e1 : IntKind.wrap .i64 ((j : Int) + 1) = ((j + 1 : Nat) : Int) := by rw [wrap_i64 (by omega) (by omega)]; omega
          rw [e1, ← had, ← hbd]
          refine ih (j + 1) _ k K0 Kr (by omega) ?_ hs' (by omega) h0 h1
          rw [List.take_add_one, List.take_add_one, ht, hu, hv, e]
    refine ⟨x.length + 1, loop x.length 0 w _ _ _ (by omega) rfl (Fr.refl w) (by omega) (fun e w' hs _g => ?_) fun e w' hs _g => ?_⟩
    · rw [decide_eq_true e]; exact ⟨by first | rfl | trivial, hs⟩
    · simp only [rdB_mk]
      rw [decide_eq_false e]; exact ⟨by first | rfl | trivial, hs⟩
  · have e0 : ((x.length : Int) != (y.length : Int)) = true := by rw [bne_iff_ne]; omega
    rw [e0, br_true]
    exact ⟨by rw [decide_eq_false fun e => he (by rw [e])], Fr.refl w⟩
end
end Go.Proofs.Ytaflmpbeonoilaa
