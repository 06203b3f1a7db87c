/-
  What a report tells of each path.
-/
import Derived.Test.YtmliokbonkndaaaObI
namespace Go.Proofs.Ytmliokbonkndaaa
open Go Go.Sh
def aV (N : Nat) (f : Nat → R52) : List Value := ((List.range N).map f).flatMap R52.l
theorem aV_length (N : Nat) (f : Nat → R52) : (aV N f).length = N * 4 := by
  unfold aV
  rw [flat_length (m := 4) (fun _ => rfl)]; simp
theorem rng_at {N p : Nat} {α : Type} {f : Nat → α} (h : p < N) : ((List.range N).map f)[p]? = some (f p) := by simp [h]
theorem rng_set {N p : Nat} {α : Type} {f : Nat → α} {x : α} (h : p < N) : ((List.range N).map f).set p x = (List.range N).map fun k => if k = p then x else f k := by
  apply List.ext_getElem?
  intro k
  rw [List.getElem?_set]
  by_cases hk : k < N
  · rw [rng_at hk]
    by_cases hp : p = k
    · subst hp; simp [hk]
    · rw [if_neg hp, rng_at hk, if_neg (fun e => hp e.symm)]
  · rw [List.getElem?_eq_none (by simp; omega), List.getElem?_eq_none (by simp; omega)]
    split
    · rw [if_neg (by simp; omega)]
    · rfl
theorem aV_at {N p j : Nat} {f : Nat → R52} {v : Value} (h : p < N) (hv : (f p).l[j]? = some v) : (aV N f)[p * 4 + j]? = some v := flat_at (m := 4) (fun _ => rfl) (rng_at h) hv
theorem aV_set {N p j : Nat} {f : Nat → R52} {v : Value} {x : R52} (h : p < N) (hj : j < 4) (hx : x.l = (f p).l.set j v) : (aV N f).set (p * 4 + j) v = aV N fun k => if k = p then x else f k := by
  unfold aV
  rw [← rng_set h, flat_set (m := 4) (fun _ => rfl) (rng_at h) hj hx]
theorem aV_congr {N : Nat} {f g : Nat → R52} (h : ∀ p < N, f p = g p) : aV N f = aV N g := by
  unfold aV
  congr 1
  refine List.map_congr_left fun p hp => h p (by simpa using hp)
/-- one chunk's part in what is told of a path -/
def akStep (now : Int) (p : Nat) (s : R52 × Bool) (x : En × Bool) : R52 × Bool :=
  if x.1.opn = true ∧ x.1.path = (p : Int) then
    ((if x.2 = true then ⟨IntKind.wrap .i64 ((s.1.f0) + x.1.data.length), if s.2 = true then s.1.f1 else x.2, if x.1.times = 1 then (if IntKind.wrap .i64 (now - x.1.sent) > 0 then IntKind.wrap .i64 (now - x.1.sent) else 0) else s.1.f2, s.1.f3⟩
      else ⟨s.1.f0, if s.2 = true then s.1.f1 else x.2, s.1.f2, s.1.f3⟩), true)
  else s
def ak0 : R52 := ⟨0, false, -1, 0⟩
def withF (f : Nat → Bool) (l : List En) : List (En × Bool) := l.zipIdx.map fun x => (x.1, f x.2)
def akP (now : Int) (f : Nat → Bool) (l : List En) (p : Nat) : R52 := ((withF f l).foldl (akStep now p) (ak0, false)).1
theorem withF_at {f : Nat → Bool} {l : List En} {j : Nat} {e : En} (h : l[j]? = some e) : (withF f l)[j]? = some (e, f j) := by simp [withF, h]
theorem withF_length (f : Nat → Bool) (l : List En) : (withF f l).length = l.length := by simp [withF]
section
variable {W w : World} {L M : List HP} {bb : Nat} {n cum : Int} {a la : Option Addr} {c lc : Nat} {es : List (Nat × En)} {b m : Nat} {e : En}
theorem ixS_to {sz l : Nat} {ad : Addr} {i : Int} {p : Nat} {K : Addr → Prop} (hi : i = (p : Int)) (h1 : p < l) (hk : K (ad.add (p * sz))) : ixS sz (some ad) l i K := by
  subst hi
  exact ixS_of (by omega) (by omega) (by rw [Int.toNat_natCast]; exact hk)
theorem c34_1 {b4 : Nat} {s2 : R95} {N : Nat} {ad md : Addr} {oc mc : Nat} {F : Nat → R52} {B : Nat → Bool} {nw : Nat → Bool} {now : Int} {Z : List HP} {j p : Nat} {q : Nat × En} {ea : Option Addr} {el ec : Nat} {n37 : Int}
    (hs2 : s2.f2n = m) (hj : j < m) (hp : p < N) (hnr : ∀ {w' : World} {A B C : HP}, Hs W (A :: B :: C :: Z) w' → Rd w' s2.f2a (bV m nw) ∧ RE w' q.1 q.2)
    {K3 Kn : Value → Value → Value → Value → Value → Value → Value → World → Prop} (hq : q.2.path = (p : Int)) (_ : q.2.opn = true)
    (h : Hs W (pt b4 (.cells s2.c 96 (0, 0)) :: slP 53 4 (some ad) N oc (aV N F) :: slP 4 1 (some md) N mc (bV N B) :: Z) w) (_ : B p = true)
    (hK : ∀ w' G, (∀ k, k ≠ p → G k = F k) → (nw j = true → G p = ⟨IntKind.wrap .i64 ((F p).f0 + q.2.data.length), (F p).f1, if q.2.times = 1 then (if IntKind.wrap .i64 (now - q.2.sent) > 0 then IntKind.wrap .i64 (now - q.2.sent) else 0) else (F p).f2, (F p).f3⟩) → (nw j = false → G p = F p) →
      Hs W (pt b4 (.cells s2.c 96 (0, 0)) :: slP 53 4 (some ad) N oc (aV N G) :: slP 4 1 (some md) N mc (bV N B) :: Z) w' →
      K3 (.int .i64 now) (.pointer (some ⟨b4, 0, none⟩)) (.slice (some ad) N oc) (.slice (some md) N mc) (.slice ea el ec) (.int .i64 n37) (.int .i64 (j : Int)) w' ∧ Kn (.int .i64 now) (.pointer (some ⟨b4, 0, none⟩)) (.slice (some ad) N oc) (.slice (some md) N mc) (.slice ea el ec) (.int .i64 n37) (.int .i64 (j : Int)) w') :
    F34_1 K3 Kn (.int .i64 now) (.pointer (some ⟨b4, 0, none⟩)) (.slice (some ad) N oc) (.slice (some md) N mc) (.int .i64 (j : Int)) (.pointer (some ⟨q.1, 0, none⟩)) (.pointer (some (ad.add (p * 4)))) (.slice ea el ec) (.int .i64 n37) (.int .i64 (j : Int)) w := by
  unfold F34_1
  simp only [rdC_mk, rdI_mk, rdP_mk, rdA_mk, add_mk]
  refine h.ldC 0 rfl rfl ?_
  obtain ⟨hrn, hre⟩ := hnr h
  obtain ⟨nd, hnd⟩ := hrn.some (by rw [bV_length]; omega)
  rw [hnd] at hrn ⊢
  refine ixS_to rfl (by omega) ?_
  rw [Nat.mul_one]
  refine ldB_c (hrn.at (bV_at hj)) ?_
  cases hb : nw j with
  | false =>
    rw [Bool.not_false, br_true]
    exact (hK w F (fun _ _ => rfl) (fun h => by rw [hb] at h; cases h) (fun _ => rfl) h).1
  | true =>
    rw [Bool.not_true, br_false]
    refine h.drw fun w1 h1 => ⟨w1, Pres.refl _, ?_⟩
    have hra := h1.rd 1 rfl
    simp only [nn_some]
    refine ldI_c (by rw [add_add]; exact hra.at (aV_at (j := 0) hp rfl)) ?_
    refine clr (c60 (hnr h1).2) ⟨_, rfl, Pres.refl _, ?_⟩
    rw [add_add]
    refine h1.put 1 rfl (by rw [aV_length]; omega) fun w2 h2 => ?_
    rw [aV_set (x := ⟨IntKind.wrap .i64 ((F p).f0 + q.2.data.length), (F p).f1, (F p).f2, (F p).f3⟩) hp (by decide) rfl] at h2
    obtain ⟨qa, qc, hq2⟩ := re_fld (hnr h2).2
    refine ldI_at hq2 rfl ?_
    show br (q.2.times == 1) _ _
    rw [br_iff]
    refine ⟨fun ht => ?_, fun ht => ?_⟩
    · have ht : q.2.times = 1 := by simpa using ht
      refine ldI_at hq2 rfl ?_
      rw [add_add]
      refine h2.put 1 rfl (by rw [aV_length]; omega) fun w3 h3 => ?_
      rw [aV_set (x := ⟨IntKind.wrap .i64 ((F p).f0 + q.2.data.length), (F p).f1, (if IntKind.wrap .i64 (now - q.2.sent) > 0 then IntKind.wrap .i64 (now - q.2.sent) else 0), (F p).f3⟩) hp (by decide) (by simp only [if_true]; rfl)] at h3
      refine (hK w3 _ (fun k hk => ?_) (fun _ => ?_) (fun h => by rw [hb] at h; cases h) h3).2
      · simp only [if_neg hk]
      · simp only [if_true, if_pos ht]
    · have ht : q.2.times ≠ 1 := by simpa using ht
      refine (hK w2 _ (fun k hk => ?_) (fun _ => ?_) (fun h => by rw [hb] at h; cases h) h2).2
      · simp only [if_neg hk]
      · simp only [if_true, if_neg ht]
def stj (now : Int) (nw : Nat → Bool) (l : List En) (j p : Nat) : R52 × Bool := ((withF nw l).take j).foldl (akStep now p) (ak0, false)
theorem stj_succ {now : Int} {nw : Nat → Bool} {l : List En} {j : Nat} {e : En} (h : l[j]? = some e) (p : Nat) : stj now nw l (j + 1) p = akStep now p (stj now nw l j p) (e, nw j) := by
  unfold stj
  rw [List.take_add_one, withF_at h, List.foldl_append]
  rfl
theorem c34_2 {b4 : Nat} {s2 : R95} {N : Nat} {ad md : Addr} {oc mc : Nat} {nw : Nat → Bool} {now : Int} {Z : List HP} (hN : n = (N : Int)) (_ : 0 < N) (hl : es.length ≤ 1048576) (hs2 : s2.f2n = es.length) (hpath : ∀ e ∈ dats es, 0 ≤ e.path ∧ e.path < n)
    (hnr : ∀ {w' : World} {A B C : HP}, Hs W (A :: B :: C :: Z) w' → Rd w' s2.f2a (bV es.length nw) ∧ RB w' bb n cum es ∧ Rd w' a (ptrV es))
    {K2 : Value → World → Prop} :
    ∀ (i j : Nat) (w : World) (k : Nat), j + i = es.length → Hs W (pt b4 (.cells s2.c 96 (0, 0)) :: slP 53 4 (some ad) N oc (aV N fun p => (stj now nw (dats es) j p).1) :: slP 4 1 (some md) N mc (bV N fun p => (stj now nw (dats es) j p).2) :: Z) w → i < k →
      (∀ w', Hs W (pt b4 (.cells s2.c 96 (0, 0)) :: slP 53 4 (some ad) N oc (aV N fun p => (stj now nw (dats es) es.length p).1) :: slP 4 1 (some md) N mc (bV N fun p => (stj now nw (dats es) es.length p).2) :: Z) w' → K2 (.slice (some ad) N oc) w') →
      F34_2 K2 k (.int .i64 now) (.pointer (some ⟨b4, 0, none⟩)) (.slice (some ad) N oc) (.slice (some md) N mc) (.slice a es.length c) (.int .i64 (es.length : Int)) (.int .i64 (j : Int)) w := by
  intro i
  induction i with
  | zero =>
    intro j w k hj h hk hK
    obtain ⟨k, rfl⟩ : ∃ j, k = j + 1 := ⟨k - 1, by omega⟩
    show F34_2B _ _ _ _ _ _ _ _ _ _
    unfold F34_2B
    simp only [rdC_mk, rdI_mk, rdA_mk, br_dec]
    refine ⟨fun hle => by exfalso; omega, fun _ => hK w ?_⟩
    rw [show es.length = j by omega]
    exact h
  | succ i ih =>
    intro j w k hj h hk hK
    obtain ⟨k, rfl⟩ : ∃ j, k = j + 1 := ⟨k - 1, by omega⟩
    show F34_2B _ _ _ _ _ _ _ _ _ _
    unfold F34_2B
    simp only [rdC_mk, rdI_mk, rdA_mk, br_dec, add_mk]
    refine ⟨fun hle => ?_, fun h => by exfalso; omega⟩
    obtain ⟨q, hq⟩ : ∃ q, es[j]? = some q := ⟨es[j]'(by omega), by simp⟩
    have hqm := List.mem_of_getElem? hq
    have hqd : (dats es)[j]? = some q.2 := by simp [dats, hq]
    have hre : ∀ {w' : World} {A B C : HP}, Hs W (A :: B :: C :: Z) w' → RE w' q.1 q.2 := fun h' => (hnr h').2.1.ent q hqm
    obtain ⟨hrn, hrb, hrp⟩ := hnr h
    obtain ⟨pd, hpd⟩ := hrp.some (by rw [ptrV_length]; omega)
    have hrp' := hrp
    rw [hpd] at hrp' ⊢
    refine ixS_to rfl (by omega) ?_
    rw [Nat.mul_one]
    refine ldP_c (hrp'.at (ptrV_at hq)) ?_
    refine clr (c59 (hre h)) ⟨_, rfl, ?_⟩
    have e1 : IntKind.wrap .i64 ((j : Int) + 1) = ((j + 1 : Nat) : Int) := by rw [wrap_i64 (by omega) (by omega)]; omega
    rw [e1]
    have next : ∀ (w' : World) (G : Nat → R52) (B : Nat → Bool), (∀ p < N, G p = (stj now nw (dats es) (j + 1) p).1) → (∀ p < N, B p = (stj now nw (dats es) (j + 1) p).2) → Hs W (pt b4 (.cells s2.c 96 (0, 0)) :: slP 53 4 (some ad) N oc (aV N G) :: slP 4 1 (some md) N mc (bV N B) :: Z) w' →
        F34_2 K2 k (.int .i64 now) (.pointer (some ⟨b4, 0, none⟩)) (.slice (some ad) N oc) (.slice (some md) N mc) (.slice (some pd) es.length c) (.int .i64 (es.length : Int)) (.int .i64 ((j + 1 : Nat) : Int)) w' := by
      intro w' G B hG hB h'
      rw [← hpd]
      rw [aV_congr hG, bV_congr hB] at h'
      exact ih (j + 1) w' k (by omega) h' (by omega) hK
    cases ho : q.2.opn with
    | false =>
      rw [Bool.not_false, br_true]
      have hid : ∀ p, stj now nw (dats es) (j + 1) p = stj now nw (dats es) j p := fun p => by
        rw [stj_succ hqd]; unfold akStep; rw [if_neg (by rw [ho]; simp)]
      exact next w _ _ (fun p _ => by rw [hid]) (fun p _ => by rw [hid]) h
    | true =>
      rw [Bool.not_true, br_false]
      simp only [nn_some]
      obtain ⟨p1, p2⟩ := hpath q.2 (by unfold dats; exact List.mem_map.2 ⟨q, hqm, rfl⟩)
      obtain ⟨p, hp⟩ : ∃ p : Nat, q.2.path = (p : Int) := ⟨q.2.path.toNat, by omega⟩
      have hpN : p < N := by omega
      obtain ⟨qa, qc, hqb⟩ := re_fld (hre h)
      refine ldI_at hqb rfl ?_
      refine ixS_to hp hpN (ldI_at hqb rfl (ixS_to hp hpN ?_))
      rw [Nat.mul_one]
      have hrm := h.rd 2 rfl
      refine ldB_c (hrm.at (bV_at hpN)) ?_
      have hstep : ∀ r, stj now nw (dats es) (j + 1) r = akStep now r (stj now nw (dats es) j r) (q.2, nw j) := fun r => stj_succ hqd r
      have other : ∀ r, r ≠ p → stj now nw (dats es) (j + 1) r = stj now nw (dats es) j r := fun r hr => by
        rw [hstep]; unfold akStep; rw [if_neg (by rw [hp]; intro h; omega)]
      have this' : stj now nw (dats es) (j + 1) p = _ := hstep p
      unfold akStep at this'
      rw [if_pos ⟨ho, hp⟩] at this'
      rw [br_iff]
      refine ⟨fun hm => ?_, fun hm => ?_⟩
      · have hm : (stj now nw (dats es) j p).2 = false := by simpa using hm
        unfold drw
        have s1 : Same w w.drew := (Fr.refl w).drew
        have h1 := h.same s1
        generalize w.drew = w1 at s1 h1 ⊢
        obtain ⟨hrn1, _, _⟩ := hnr h1
        have hqb1 := s1.blk hqb fun x => x
        refine ldI_at hqb1 rfl (h1.ldC 0 rfl rfl ?_)
        obtain ⟨nd, hnd⟩ := hrn1.some (by rw [bV_length]; omega)
        rw [hnd] at hrn1 ⊢
        refine ixS_to rfl (by omega) ?_
        rw [Nat.mul_one]
        refine ldB_c (hrn1.at (bV_at (by omega))) ?_
        refine ixS_to hp hpN ?_
        rw [Nat.mul_one]
        refine h1.put 2 rfl (by rw [bV_length]; exact hpN) fun w2 h2 => ?_
        rw [bV_set hpN] at h2
        rw [add_add]
        refine h2.put 1 rfl (by rw [aV_length]; omega) fun w3 h3 => ?_
        rw [aV_set (x := ⟨(stj now nw (dats es) j p).1.f0, nw j, (stj now nw (dats es) j p).1.f2, (stj now nw (dats es) j p).1.f3⟩) hpN (by decide) rfl] at h3
        refine c34_1 hs2 (by omega) hpN (fun h' => ⟨(hnr h').1, hre h'⟩) hp ho h3 (by simp) fun w4 G hG1 hG2 hG3 h4 => ?_
        have fin := next w4 G _ (fun r hr => ?_) (fun r hr => ?_) h4
        · constructor <;>
          · intro _g
            simp only [rdC_mk, rdI_mk, rdA_mk]
            rw [e1]
            exact fin
        · by_cases hrp : r = p
          · subst hrp
            rw [this', hm]
            cases hb : nw j with
            | true => rw [hG2 hb]; simp only [if_true]; rw [hb]; rfl
            | false => rw [hG3 hb]; simp only [if_true]; rw [hb]; rfl
          · rw [hG1 r hrp, if_neg hrp, other r hrp]
        · by_cases hrp : r = p
          · subst hrp; rw [if_pos rfl, this']
          · rw [if_neg hrp, other r hrp]
      · have hm : (stj now nw (dats es) j p).2 = true := by simpa using hm
        refine c34_1 hs2 (by omega) hpN (fun h' => ⟨(hnr h').1, hre h'⟩) hp ho h hm fun w4 G hG1 hG2 hG3 h4 => ?_
        have fin := next w4 G _ (fun r hr => ?_) (fun r hr => ?_) h4
        · constructor <;>
          · intro _g
            simp only [rdC_mk, rdI_mk, rdA_mk]
            rw [e1]
            exact fin
        · by_cases hrp : r = p
          · subst hrp
            rw [this', hm]
            cases hb : nw j with
            | true => rw [hG2 hb]; rfl
            | false => rw [hG3 hb]; rfl
          · rw [hG1 r hrp, other r hrp]
        · by_cases hrp : r = p
          · subst hrp; rw [this', hm]
          · rw [other r hrp]
theorem zA0 : (madeCells (Value.cells (R52.v R52.z)) (0 * 4)).toList = aV 0 fun _ => R52.z := by kernel_rfl
theorem zA1 : (madeCells (Value.cells (R52.v R52.z)) (1 * 4)).toList = aV 1 fun _ => R52.z := by kernel_rfl
theorem zA2 : (madeCells (Value.cells (R52.v R52.z)) (2 * 4)).toList = aV 2 fun _ => R52.z := by kernel_rfl
theorem zA3 : (madeCells (Value.cells (R52.v R52.z)) (3 * 4)).toList = aV 3 fun _ => R52.z := by kernel_rfl
theorem zA4 : (madeCells (Value.cells (R52.v R52.z)) (4 * 4)).toList = aV 4 fun _ => R52.z := by kernel_rfl
theorem zA5 : (madeCells (Value.cells (R52.v R52.z)) (5 * 4)).toList = aV 5 fun _ => R52.z := by kernel_rfl
theorem zA6 : (madeCells (Value.cells (R52.v R52.z)) (6 * 4)).toList = aV 6 fun _ => R52.z := by kernel_rfl
theorem zA7 : (madeCells (Value.cells (R52.v R52.z)) (7 * 4)).toList = aV 7 fun _ => R52.z := by kernel_rfl
theorem zA8 : (madeCells (Value.cells (R52.v R52.z)) (8 * 4)).toList = aV 8 fun _ => R52.z := by kernel_rfl
theorem zerosA {N : Nat} (h : N ≤ 8) : (madeCells (Value.cells (R52.v R52.z)) (N * 4)).toList = aV N fun _ => R52.z := by
  have : N = 0 ∨ N = 1 ∨ N = 2 ∨ N = 3 ∨ N = 4 ∨ N = 5 ∨ N = 6 ∨ N = 7 ∨ N = 8 := by omega
  rcases this with rfl | rfl | rfl | rfl | rfl | rfl | rfl | rfl | rfl
  · exact zA0
  · exact zA1
  · exact zA2
  · exact zA3
  · exact zA4
  · exact zA5
  · exact zA6
  · exact zA7
  · exact zA8

def ackOut (now : Int) (nw : Nat → Bool) (l : List En) (p : Nat) : R52 := (stj now nw l l.length p).1
theorem c34 {s2 : R95} {N : Nat} {nw : Nat → Bool} {na : Option Addr} {nc : Nat} (hN : n = (N : Int)) (hN8 : 0 < N ∧ N ≤ 8) (hl : es.length ≤ 1048576) (hs2 : s2.f2n = es.length) (hs3 : s2.f2a = na) (hpath : ∀ e ∈ dats es, 0 ≤ e.path ∧ e.path < n) (now : Int)
    (h : Hs W (slP 4 1 na es.length nc (bV es.length nw) :: (boxL bb n cum a c es ++ L)) w) :
    Calls Try.prog 34 #[.pointer (some ⟨bb, 0, none⟩), s2.v, .int .i64 now] w (rt fun v w' => ∃ oa oc, v = .slice oa N oc ∧ Hs W (slP 53 4 oa N oc (aV N (ackOut now nw (dats es))) :: slP 4 1 na es.length nc (bV es.length nw) :: (boxL bb n cum a c es ++ L)) w') := by
  refine F34_ok ?_
  unfold F34
  simp only [rdI_mk, rdP_mk]
  refine exR95_of s2 ⟨rfl, ?_⟩
  refine h.alc fun b4 w1 h1 => ?_
  simp only [nn_some, add_mk]
  refine h1.ldI 2 rfl rfl ?_
  rw [hN]
  refine h1.make E46 (by omega) (by omega) (by omega) fun oa w2 h2 _ => ?_
  rw [zerosA hN8.2] at h2
  refine h2.ldI 3 rfl rfl ?_
  rw [hN]
  refine h2.make E24 (by omega) (by omega) (by omega) fun ma w3 h3 _ => ?_
  rw [zerosB] at h3
  obtain ⟨Z, hZ⟩ : ∃ Z, Z = slP 4 1 na es.length nc (bV es.length nw) :: (boxL bb n cum a c es ++ L) := ⟨_, rfl⟩
  have h3 : Hs W (slP 4 1 ma N N (bV N fun _ => false) :: slP 53 4 oa N N (aV N fun _ => R52.z) :: pt b4 (.cells s2.c 96 (0, 0)) :: Z) w3 := by rw [hZ, hN]; rw [hN] at h3; exact h3
  have h3 : Hs W (pt b4 (.cells s2.c 96 (0, 0)) :: slP 53 4 oa N N (aV N fun _ => R52.z) :: slP 4 1 ma N N (bV N fun _ => false) :: Z) w3 := Hs.re (X := [_, _, _]) (L := Z) (n := 3) h3 rfl (is := [2, 1, 0]) (by decide)
  obtain ⟨ad, hoa⟩ := (h3.rd 1 rfl).some (by rw [aV_length]; omega)
  obtain ⟨md, hma⟩ := (h3.rd 2 rfl).some (by rw [bV_length]; omega)
  subst hoa; subst hma
  have hnr : ∀ {w' : World} {A B C : HP}, Hs W (A :: B :: C :: Z) w' → Rd w' s2.f2a (bV es.length nw) ∧ RB w' bb n cum es ∧ Rd w' a (ptrV es) := by
    intro w' A B C h'
    rw [hZ] at h'
    refine ⟨by rw [hs3]; exact h'.rd 3 rfl, ?_, h'.rdO 5 rfl⟩
    exact box_rbX (X := [A, B, C, _]) h'
  have loop : ∀ (i j : Nat) (w : World) (k : Nat) (K0 : Value → Value → Value → Value → Value → World → Prop), j + i = N → Hs W (pt b4 (.cells s2.c 96 (0, 0)) :: slP 53 4 (some ad) N N (aV N fun p => if p < j then ak0 else R52.z) :: slP 4 1 (some md) N N (bV N fun _ => false) :: Z) w → i < k →
      (∀ w', Hs W (pt b4 (.cells s2.c 96 (0, 0)) :: slP 53 4 (some ad) N N (aV N fun _ => ak0) :: slP 4 1 (some md) N N (bV N fun _ => false) :: Z) w' → K0 (.pointer (some ⟨bb, 0, none⟩)) (.int .i64 now) (.pointer (some ⟨b4, 0, none⟩)) (.slice (some ad) N N) (.slice (some md) N N) w') →
      F34_3 K0 k (.pointer (some ⟨bb, 0, none⟩)) (.int .i64 now) (.pointer (some ⟨b4, 0, none⟩)) (.slice (some ad) N N) (.slice (some md) N N) (.int .i64 (N : Int)) (.int .i64 (j : Int)) w := by
    intro i
    induction i with
    | zero =>
      intro j w k K0 hj h hk hK
      obtain ⟨k, rfl⟩ : ∃ j, k = j + 1 := ⟨k - 1, by omega⟩
      show F34_3B _ _ _ _ _ _ _ _ _ _
      unfold F34_3B
      simp only [rdC_mk, rdI_mk, rdP_mk, rdA_mk, br_dec]
      refine ⟨fun hle => by exfalso; omega, fun _ => hK w ?_⟩
      rw [aV_congr (g := fun _ => ak0) fun p hp => if_pos (by omega)] at h
      exact h
    | succ i ih =>
      intro j w k K0 hj h hk hK
      obtain ⟨k, rfl⟩ : ∃ j, k = j + 1 := ⟨k - 1, by omega⟩
      show F34_3B _ _ _ _ _ _ _ _ _ _
      unfold F34_3B
      simp only [rdC_mk, rdI_mk, rdP_mk, rdA_mk, br_dec]
      refine ⟨fun hle => ?_, fun h => by exfalso; omega⟩
      refine ixS_to rfl (by omega) ?_
      rw [add_add]
      refine h.put 1 rfl (by rw [aV_length]; omega) fun w2 h2 => ?_
      rw [aV_set (x := ak0) (by omega) (by decide) (by rw [if_neg (by omega)]; rfl)] at h2
      have ec : aV N (fun k => if k = j then ak0 else if k < j then ak0 else R52.z) = aV N (fun p => if p < j + 1 then ak0 else R52.z) := aV_congr fun p hp => by
        by_cases h1 : p = j
        · rw [if_pos h1, if_pos (by omega)]
        · by_cases h2 : p < j
          · rw [if_neg h1, if_pos h2, if_pos (by omega)]
          · rw [if_neg h1, if_neg h2, if_neg (by omega)]
      rw [ec] at h2
      have e1 : IntKind.wrap .i64 ((j : Int) + 1) = ((j + 1 : Nat) : Int) := by rw [wrap_i64 (by omega) (by omega)]; omega
      rw [e1]
      exact ih (j + 1) w2 k K0 (by omega) h2 (by omega) hK
  refine ⟨N + 1, loop N 0 w3 _ _ (by omega) (by rw [aV_congr (g := fun _ => R52.z) fun p hp => if_neg (by omega)]; exact h3) (by omega) fun w4 h4 _g => ?_⟩
  simp only [rdC_mk, rdI_mk, rdP_mk, rdA_mk, nn_some, add_mk]
  have hb4 := h4
  rw [hZ] at hb4
  refine hb4.ldC 4 rfl rfl ?_
  refine ⟨es.length + 1, c34_2 hN hN8.1 hl hs2 hpath hnr es.length 0 w4 _ (by omega) ?_ (by omega) fun w5 h5 _g => ?_⟩
  · have e1 : (fun p => (stj now nw (dats es) 0 p).1) = fun _ => ak0 := by funext p; simp [stj]
    have e2 : (fun p => (stj now nw (dats es) 0 p).2) = fun _ => false := by funext p; simp [stj]
    rw [e1, e2]
    exact h4
  · simp only [rdC_mk]
    refine ⟨some ad, N, rfl, ?_⟩
    have e3 : (fun p => (stj now nw (dats es) es.length p).1) = ackOut now nw (dats es) := by funext p; unfold ackOut; simp [dats]
    rw [e3, hZ, hN] at h5
    exact (h5.drop).erase 1
end
end Go.Proofs.Ytmliokbonkndaaa
