/-
  Chunks that later ones have overtaken: the loop from the last to the first.
-/
import Derived.Test.YtmliokbonkndaaaObL
namespace Go.Proofs.Ytmliokbonkndaaa
open Go Go.Sh
def bqk (lt : Nat → Int) (e : En) : Bool := e.st == 1 && decide (lt e.path.toNat ≥ e.sent)
def qR (nw : Nat → Bool) (F0 : Nat → R52) : Nat → List En → (Nat → Int) × (Nat → R52)
  | _, [] => (fun _ => -1, F0)
  | j, e :: r => (latS (nw j) e (qR nw F0 (j + 1) r).1, if mkdB (bqk (qR nw F0 (j + 1) r).1 e) e = true then withL (qR nw F0 (j + 1) r).2 e.path.toNat (IntKind.wrap .i64 (((qR nw F0 (j + 1) r).2 e.path.toNat).f3 + e.data.length)) else (qR nw F0 (j + 1) r).2)
/-- what stands when the chunks from j on are done -/
def qS (nw : Nat → Bool) (F0 : Nat → R52) (l : List En) (j : Nat) : (Nat → Int) × (Nat → R52) := qR nw F0 j (l.drop j)
theorem qS_step {nw : Nat → Bool} {F0 : Nat → R52} {l : List En} {j : Nat} {e : En} (h : l[j]? = some e) : qS nw F0 l j = (latS (nw j) e (qS nw F0 l (j + 1)).1, if mkdB (bqk (qS nw F0 l (j + 1)).1 e) e = true then withL (qS nw F0 l (j + 1)).2 e.path.toNat (IntKind.wrap .i64 (((qS nw F0 l (j + 1)).2 e.path.toNat).f3 + e.data.length)) else (qS nw F0 l (j + 1)).2) := by
  unfold qS
  have hlt := (List.getElem?_eq_some_iff.1 h).1
  rw [List.drop_eq_getElem_cons hlt, (List.getElem?_eq_some_iff.1 h).2]
  rfl
def quickL (nw : Nat → Bool) (F0 : Nat → R52) (l : List En) (k : Nat) (e : En) : En := quickF (bqk (qS nw F0 l (k + 1)).1 e) e
section
variable {W w : World} {L M : List HP} {bb : Nat} {n cum : Int} {a la : Option Addr} {c lc : Nat} {es : List (Nat × En)} {b m : Nat} {e : En}
variable {T : QC} {N : Nat} {fr rn : Int} {nw : Nat → Bool} {lt : Nat → Int} {F : Nat → R52} {R Z : List HP} {q j p : Nat} {A : HP}
theorem quickF_path (B : Bool) (e : En) : (quickF B e).path = e.path ∧ (quickF B e).sent = e.sent ∧ (quickF B e).data = e.data := by
  unfold quickF
  split
  · split <;> exact ⟨rfl, rfl, rfl⟩
  · exact ⟨rfl, rfl, rfl⟩
theorem c36_r {q0 : Nat × En} {Kx : Code → World → Prop} (h : Hs W (A :: (T.prs m N fr rn nw lt F ++ (boxL bb n cum a c es ++ Z))) w) (hj : j < m) (hi : es[j]? = some q0) (hp : q0.2.path = (p : Int)) (hN : p < N) {w0 : World} {Kn : World → Prop}
    (hK : ∀ w', Hs W (A :: (T.prs m N fr rn nw (latS (nw j) q0.2 lt) (if mkdB (bqk lt q0.2) q0.2 = true then withL F p (IntKind.wrap .i64 ((F p).f3 + q0.2.data.length)) else F) ++ (boxL bb n cum a c (es.set j (q0.1, quickF (bqk lt q0.2) q0.2)) ++ Z))) w' → Kn w') :
    F36_5r Kn Kx (.pointer (some ⟨T.b4, 0, none⟩)) (.pointer (some ⟨T.b6, 0, none⟩)) (.pointer (some ⟨T.b12, 0, none⟩)) (.int .i64 (j : Int)) (.pointer (some ⟨q0.1, 0, none⟩)) w0 w := by
  unfold F36_5r
  simp only [rdI_mk, rdP_mk, rdA_mk]
  refine ⟨trivial, ?_⟩
  refine h.drw fun w1 h1 => ?_
  have hX : Hs W ((T.prs m N fr rn nw lt F ++ [A]) ++ (boxL bb n cum a c es ++ Z)) w1 := by
    refine (h1.behind (L := T.prs m N fr rn nw lt F)).cast ?_
    simp
  obtain ⟨R, hR, back⟩ := box_turnX hX hi
  have hR : Hs W (entP q0 :: (T.prs m N fr rn nw lt F ++ ([A] ++ R))) w1 := hR.cast (by simp)
  have back' : ∀ e' lt' F' w', Hs W (entP (q0.1, e') :: (T.prs m N fr rn nw lt' F' ++ ([A] ++ R))) w' → Hs W (A :: (T.prs m N fr rn nw lt' F' ++ (boxL bb n cum a c (es.set j (q0.1, e')) ++ Z))) w' := by
    intro e' lt' F' w' h'
    have h2 := back (T.prs m N fr rn nw lt' F' ++ [A]) e' w' (h'.cast (by simp))
    exact Hs.ahead (L := T.prs m N fr rn nw lt' F') (h2.cast (by simp))
  refine clr (c55 (ent_re hR)) ⟨_, rfl, ?_⟩
  have hpt : q0.2.path.toNat = p := by omega
  have tail : ∀ (B : Bool), B = bqk lt q0.2 → F36_2 (fun y4 y6 y8 y9 w18 => ∀ _g : Tm, rdA y4 fun a20 => rdA y6 fun a21 => rdI .i64 y8 fun n22 => rdP y9 fun p23 => F36_3 (fun w25 => ∀ _g : Tm, Kn w25) (.pointer (some a20)) (.pointer (some a21)) (.int .i64 n22) (.pointer p23) w18) (.pointer (some ⟨T.b4, 0, none⟩)) (.pointer (some ⟨T.b6, 0, none⟩)) (.pointer (some ⟨T.b12, 0, none⟩)) (.int .i64 (j : Int)) (.pointer (some ⟨q0.1, 0, none⟩)) (.bool B) w1 := by
    intro B hB
    refine c36_2 (q := q0.1) (e1 := q0.2) hp hN hR fun w2 h2 _g => ?_
    simp only [rdI_mk, rdP_mk, rdA_mk]
    refine c36_3 (q := q0.1) (e1 := quickF B q0.2) hj (by rw [(quickF_path B q0.2).1]; exact hp) hN h2 fun w3 h3 _g => ?_
    have e1 : latS (nw j) (quickF B q0.2) lt = latS (nw j) q0.2 lt := by
      unfold latS
      rw [(quickF_path B q0.2).1, (quickF_path B q0.2).2.1]
    rw [e1, hB] at h3
    exact hK w3 (back' _ _ _ w3 h3)
  cases hf : q0.2.st == 1 with
  | false =>
    rw [br_false]
    exact tail false (by unfold bqk; rw [hf]; rfl)
  | true =>
    rw [br_true]
    simp only [nn_some, add_mk]
    refine hR.ldC 3 rfl rfl ?_
    obtain ⟨qa, qc, hq⟩ := re_fld (ent_re hR)
    refine ldI_at hq rfl ?_
    have hrl := hR.rd 4 rfl
    show ixS 1 T.la N q0.2.path _
    obtain ⟨ld, hl⟩ := hrl.some (by rw [iV_length]; omega)
    rw [hl] at hrl ⊢
    refine ixS_to hp hN ?_
    rw [Nat.mul_one]
    refine ldI_c (hrl.at (iV_at hN)) (ldI_at hq rfl ?_)
    exact tail (decide (lt p ≥ q0.2.sent)) (by unfold bqk; rw [hf, hpt]; rfl)
theorem push3 {D B2 : HP} {P Bx Z : List HP} : ([D, B2] ++ (P ++ (Bx ++ Z))).Perm (P ++ (Bx ++ ([D, B2] ++ Z))) :=
  (List.perm_append_comm_assoc [D, B2] P (Bx ++ Z)).trans (List.Perm.append_left P (List.perm_append_comm_assoc [D, B2] Bx Z))
theorem c36_5 {b2 : Nat} {F0 : Nat → R52} (hm : es.length = m) (hm2 : m ≤ 1048576) (hNn : n = (N : Int)) (hpath : ∀ e ∈ dats es, 0 ≤ e.path ∧ e.path < n)
    (h : Hs W (pt b2 (.cells #[.slice a es.length c] 77 (0, 0)) :: (T.prs m N fr rn nw (fun _ => -1) F0 ++ (boxL bb n cum a c es ++ Z))) w) {Kn : World → Prop}
    (hK : ∀ w' es', dats es' = (dats es).mapIdx (quickL nw F0 (dats es)) → Hs W (T.prs m N fr rn nw (qS nw F0 (dats es) 0).1 (qS nw F0 (dats es) 0).2 ++ (boxL bb n cum a c es' ++ Z)) w' → Kn w') :
    F36_5 Kn (.pointer (some ⟨T.b4, 0, none⟩)) (.pointer (some ⟨T.b6, 0, none⟩)) (.pointer (some ⟨T.b12, 0, none⟩)) (.func (.func 77) #[] #[.pointer (some ⟨b2, 0, none⟩)]) w := by
  unfold F36_5
  simp only [rdA_mk]
  refine ⟨77, #[.pointer (some ⟨b2, 0, none⟩)], rfl, by kernel_rfl, fun rec hy => ?_⟩
  have h1 := (h.alloc (.deferred (some []))).alloc (rec .ready none)
  have hsz : (w.alloc (.deferred (some []))).heap.size = w.heap.size + 1 := by simp
  rw [hsz] at h1
  generalize (w.alloc (.deferred (some []))).alloc (rec .ready none) = w1 at h1 ⊢
  obtain ⟨l, hl⟩ : ∃ l, l = w.heap.size + 1 := ⟨_, rfl⟩
  obtain ⟨D, hD⟩ : ∃ D, D = w.heap.size := ⟨_, rfl⟩
  rw [← hl] at h1 hy ⊢
  rw [← hD] at h1 ⊢
  obtain ⟨Zz, hZz⟩ : ∃ Zz, Zz = [pt D (.deferred (some [])), pt b2 (.cells #[.slice a es.length c] 77 (0, 0))] ++ Z := ⟨_, rfl⟩
  have h2 : Hs W (pt l (rec .ready none) :: (T.prs m N fr rn nw (fun _ => -1) F0 ++ (boxL bb n cum a c es ++ Zz))) w1 := by
    rw [hZz]; exact h1.perm (List.Perm.cons _ (push3 (D := pt D (.deferred (some []))) (B2 := pt b2 (.cells #[.slice a es.length c] 77 (0, 0))) (P := T.prs m N fr rn nw (fun _ => -1) F0) (Bx := boxL bb n cum a c es) (Z := Z)))
  have hb2 : ∀ {A : HP} {lt : Nat → Int} {F : Nat → R52} {es' : List (Nat × En)} {w' : World}, Hs W (A :: (T.prs m N fr rn nw lt F ++ (boxL bb n cum a c es' ++ Zz))) w' → w'.heap[b2]? = some (.cells #[.slice a es.length c] 77 (0, 0)) := by
    intro A lt F es' w' h'
    rw [hZz] at h'
    have := h'.perm (List.Perm.cons _ push3.symm)
    exact this.at 2 rfl
  clear h1 h
  show Calls Try.prog 77 #[.func (.yield l) #[] #[], .pointer (some ⟨b2, 0, none⟩)] w1 _
  refine Calls.mono (F77_ok (K := fun v w2 => ((w2.heap[l]? = some (rec .ready none) ∧ _) ∨ _)) ?_) fun e w2 ⟨v, he, hv⟩ => ⟨v, he, hv⟩
  unfold F77
  simp only [rdA_mk]
  refine ldC_at (hb2 h2) rfl ?_
  have loop : ∀ (r : Nat) (w3 : World) (k : Nat) (K0 : World → Prop) (Kr : World → Prop), r ≤ es.length → Hs W (pt l (rec .ready none) :: (T.prs m N fr rn nw (qS nw F0 (dats es) r).1 (qS nw F0 (dats es) r).2 ++ (boxL bb n cum a c (hP (fun k => decide (r ≤ k)) (quickL nw F0 (dats es)) es) ++ Zz))) w3 → r < k →
      (∀ w', Hs W (pt l (rec .ready none) :: (T.prs m N fr rn nw (qS nw F0 (dats es) 0).1 (qS nw F0 (dats es) 0).2 ++ (boxL bb n cum a c (hP (fun k => decide (0 ≤ k)) (quickL nw F0 (dats es)) es) ++ Zz))) w' → K0 w') →
      F77_1 K0 Kr k (.func (.yield l) #[] #[]) (.pointer (some ⟨b2, 0, none⟩)) (.int .i64 ((r : Int) - 1)) w3 := by
    intro r
    induction r with
    | zero =>
      intro w3 k K0 Kr hr h hk hK
      obtain ⟨k, rfl⟩ : ∃ j, k = j + 1 := ⟨k - 1, by omega⟩
      show F77_1B _ _ _ _ _ _ _
      unfold F77_1B
      simp only [rdI_mk, rdA_mk, br_dec]
      exact ⟨fun hle => by exfalso; omega, fun _ => hK w3 h⟩
    | succ r ih =>
      intro w3 k K0 Kr hr h hk hK
      obtain ⟨k, rfl⟩ : ∃ j, k = j + 1 := ⟨k - 1, by omega⟩
      show F77_1B _ _ _ _ _ _ _
      unfold F77_1B
      simp only [rdI_mk, rdA_mk, br_dec]
      have e0 : ((r + 1 : Nat) : Int) - 1 = (r : Int) := by omega
      rw [e0]
      refine ⟨fun hle => ?_, fun h => by exfalso; omega⟩
      refine ldC_at (hb2 h) rfl ?_
      obtain ⟨q0, hq⟩ : ∃ q, es[r]? = some q := ⟨es[r]'(by omega), by simp⟩
      have hq' : (hP (fun k => decide (r + 1 ≤ k)) (quickL nw F0 (dats es)) es)[r]? = some q0 := by rw [hP_get (by simp)]; exact hq
      have hqd : (dats es)[r]? = some q0.2 := by simp [dats, hq]
      have hqm := List.mem_of_getElem? hqd
      obtain ⟨p1, p2⟩ := hpath q0.2 hqm
      obtain ⟨p, hp⟩ : ∃ p : Nat, q0.2.path = (p : Int) := ⟨q0.2.path.toNat, by omega⟩
      have hpN : p < N := by omega
      have hpt : q0.2.path.toNat = p := by omega
      have hrp : Rd w3 a (ptrV es) := by
        have h5 : Hs W (boxL bb n cum a c (hP (fun k => decide (r + 1 ≤ k)) (quickL nw F0 (dats es)) es) ++ ((pt l (rec .ready none) :: T.prs m N fr rn nw (qS nw F0 (dats es) (r + 1)).1 (qS nw F0 (dats es) (r + 1)).2) ++ Zz)) w3 := Hs.flip.1 h
        have := h5.rdO 1 rfl
        rw [hP_ptr] at this
        exact this
      obtain ⟨pd, hpd⟩ := hrp.some (by rw [ptrV_length]; omega)
      show ixS 1 a es.length _ _
      rw [hpd] at hrp ⊢
      refine ixS_to rfl (by omega) ?_
      rw [Nat.mul_one]
      refine ldP_c (hrp.at (ptrV_at hq)) ?_
      refine .inr ⟨l, rfl, hy _ _ _ (h.at 0 rfl) ⟨_, _, rfl, ?_⟩⟩
      have hbusy : Hs W (pt l (rec .busy none) :: (T.prs m N fr rn nw (qS nw F0 (dats es) (r + 1)).1 (qS nw F0 (dats es) (r + 1)).2 ++ (boxL bb n cum a c (hP (fun k => decide (r + 1 ≤ k)) (quickL nw F0 (dats es)) es) ++ Zz))) (w3.putObj l (rec .busy none)) := h.sb 0 rfl (rec .busy none)
      refine c36_r hbusy (by omega) hq' hp hpN fun w4 h4 => ⟨h4.at 0 rfl, true, rfl, true, rfl, ?_⟩
      rw [Bool.not_true, br_false]
      have e1 : IntKind.wrap .i64 ((r : Int) - 1) = (r : Int) - 1 := wrap_i64 (by omega) (by omega)
      rw [e1]
      refine ih _ k K0 Kr (by omega) ?_ (by omega) hK
      have h5 : Hs W (pt l (rec .ready none) :: _) (w4.putObj l (rec .ready none)) := h4.sb 0 rfl (rec .ready none)
      rw [qS_step hqd, hpt]
      refine h5.cast ?_
      rw [show quickF (bqk (qS nw F0 (dats es) (r + 1)).1 q0.2) q0.2 = quickL nw F0 (dats es) r q0.2 from rfl, hP_set hq (by simp), hP_congr (P' := fun k => decide (r ≤ k)) fun i hi => by
        rw [Bool.eq_iff_iff, Bool.or_eq_true, decide_eq_true_eq, decide_eq_true_eq, decide_eq_true_eq]; omega]
  have e2 : IntKind.wrap .i64 ((es.length : Int) - 1) = (es.length : Int) - 1 := wrap_i64 (by omega) (by omega)
  rw [e2]
  refine ⟨es.length + 1, loop es.length w1 _ _ _ (Nat.le_refl _) ?_ (by omega) fun w3 h3 _g => .inl ⟨h3.at 0 rfl, ?_⟩⟩
  · have hx : qS nw F0 (dats es) es.length = (fun _ => -1, F0) := by
      unfold qS
      rw [List.drop_eq_nil_of_le (by simp [dats])]
      rfl
    rw [hx, hP_congr (P' := fun _ => false) fun i hi => by simp; omega, hP_none]
    exact h2
  · have h4 : Hs W (pt l (rec .exhausted none) :: _) (w3.putObj l (rec .exhausted none)) := h3.sb 0 rfl (rec .exhausted none)
    rw [hZz] at h4
    have h5 := (h4.perm (List.Perm.cons _ push3.symm)).drop
    refine ⟨h5.at 0 rfl, ?_⟩
    have h6 : Hs W (pt D (.deferred none) :: _) ((w3.putObj l (rec .exhausted none)).putObj D (.deferred none)) := h5.sb 0 rfl (.deferred none)
    refine hK _ _ ?_ h6.drop.drop
    rw [hP_congr (P' := fun _ => true) fun i hi => by simp, hP_all]
theorem c61 {a : Option Addr} {l c : Nat} (h : Hs W L w) : Calls Try.prog 61 #[.slice a l c] w (rt fun v w' => ∃ b2, v = .func (.func 77) #[] #[.pointer (some ⟨b2, 0, none⟩)] ∧ Hs W (pt b2 (.cells #[.slice a l c] 77 (0, 0)) :: L) w') := by
  refine F61_ok ?_
  unfold F61
  simp only [rdC_mk]
  exact h.alc fun b w1 h1 => ⟨b, rfl, h1⟩
theorem c36 {rb : Nat} {oa ta ga na : Option Addr} {oc tc gc nc : Nat} {F0 : Nat → R52} (hm2 : es.length ≤ 1048576) (hNn : n = (N : Int)) (hN8 : 0 < N ∧ N ≤ 8) (hpath : ∀ e ∈ dats es, 0 ≤ e.path ∧ e.path < n)
    (h : Hs W (pt rb (.cells (R47.mk oa N oc fr rn).c 48 (0, 0)) :: slP 53 4 oa N oc (aV N F0) :: slP 4 1 na es.length nc (bV es.length nw) :: (boxL bb n cum a c es ++ L)) w) :
    Calls Try.prog 36 #[.pointer (some ⟨bb, 0, none⟩), (R95.mk ta es.length tc ga es.length gc na es.length nc).v, .pointer (some ⟨rb, 0, none⟩)] w (rt fun v w' => v = .tuple #[] ∧ ∃ es', dats es' = (dats es).mapIdx (quickL nw F0 (dats es)) ∧
      Hs W (pt rb (.cells (R47.mk oa N oc fr rn).c 48 (0, 0)) :: slP 53 4 oa N oc (aV N (qS nw F0 (dats es) 0).2) :: slP 4 1 na es.length nc (bV es.length nw) :: (boxL bb n cum a c es' ++ L)) w') := by
  refine F36_ok ?_
  unfold F36
  simp only [rdP_mk]
  refine exR95_of (R95.mk ta es.length tc ga es.length gc na es.length nc) ⟨rfl, ?_⟩
  refine h.alc fun b4 w1 h1 => h1.alc fun b6 w2 h2 => ?_
  simp only [nn_some, add_mk]
  refine h2.ldI 5 rfl rfl ?_
  rw [show Value.int .i64 n = .int .i64 (N : Int) by rw [hNn]]
  refine h2.make E125 (by omega) (by omega) (by omega) fun la w3 h3 _ => ?_
  rw [zerosI] at h3
  refine h3.alc fun b12 w4 h4 => h4.stc 0 rfl (by simp) fun w5 h5 => ?_
  have h5 : Hs W ([pt b12 (.cells #[.slice la N N] 125 (0, 0)), slP 3 1 la N N (iV N fun _ => 0), pt b6 (.cells #[.pointer (some ⟨rb, 0, none⟩)] 100 (0, 0)), pt b4 (.cells (R95.mk ta es.length tc ga es.length gc na es.length nc).c 96 (0, 0)), pt rb (.cells (R47.mk oa N oc fr rn).c 48 (0, 0)), slP 53 4 oa N oc (aV N F0), slP 4 1 na es.length nc (bV es.length nw)] ++ (boxL bb n cum a c es ++ L)) w5 := h5
  obtain ⟨T, hT⟩ : ∃ T : QC, T = ⟨b4, b6, b12, rb, la, N, oa, oc, ta, tc, ga, gc, na, nc⟩ := ⟨_, rfl⟩
  have h6 : Hs W (T.prs es.length N fr rn nw (fun _ => 0) F0 ++ (boxL bb n cum a c es ++ L)) w5 := by
    rw [hT]
    exact Hs.re (n := 7) h5 rfl (is := [3, 2, 0, 1, 4, 5, 6]) (by decide)
  refine h5.ldC 0 rfl rfl ?_
  clear h1 h2 h3 h4 h5
  have e4 : b4 = T.b4 := by rw [hT]
  have e6 : b6 = T.b6 := by rw [hT]
  have e12 : b12 = T.b12 := by rw [hT]
  have ela : la = T.la := by rw [hT]
  have elc : T.lc = N := by rw [hT]
  have back : ∀ {lt : Nat → Int} {F : Nat → R52} {es' : List (Nat × En)} {w' : World}, Hs W (T.prs es.length N fr rn nw lt F ++ (boxL bb n cum a c es' ++ L)) w' →
      Hs W (pt rb (.cells (R47.mk oa N oc fr rn).c 48 (0, 0)) :: slP 53 4 oa N oc (aV N F) :: slP 4 1 na es.length nc (bV es.length nw) :: (boxL bb n cum a c es' ++ L)) w' := by
    intro lt F es' w' h'
    rw [hT] at h'
    exact h'.drop.drop.drop.drop
  have loop : ∀ (i j : Nat) (w : World) (k : Nat) (K0 : Value → Value → Value → Value → World → Prop), j + i = N → Hs W (T.prs es.length N fr rn nw (fun p => if p < j then -1 else 0) F0 ++ (boxL bb n cum a c es ++ L)) w → i < k →
      (∀ w', Hs W (T.prs es.length N fr rn nw (fun _ => -1) F0 ++ (boxL bb n cum a c es ++ L)) w' → K0 (.pointer (some ⟨bb, 0, none⟩)) (.pointer (some ⟨T.b4, 0, none⟩)) (.pointer (some ⟨T.b6, 0, none⟩)) (.pointer (some ⟨T.b12, 0, none⟩)) w') →
      F36_4 K0 k (.pointer (some ⟨bb, 0, none⟩)) (.pointer (some ⟨T.b4, 0, none⟩)) (.pointer (some ⟨T.b6, 0, none⟩)) (.pointer (some ⟨T.b12, 0, none⟩)) (.int .i64 (N : Int)) (.int .i64 (j : Int)) w := by
    intro i
    induction i with
    | zero =>
      intro j w k K0 hj h hk hK
      obtain ⟨k, rfl⟩ : ∃ j, k = j + 1 := ⟨k - 1, by omega⟩
      show F36_4B _ _ _ _ _ _ _ _ _
      unfold F36_4B
      simp only [rdI_mk, rdP_mk, rdA_mk, br_dec]
      refine ⟨fun hle => by exfalso; omega, fun _ => hK w ?_⟩
      refine h.cast ?_
      unfold QC.prs
      rw [iV_congr (N := N) (f := fun p => if p < j then -1 else 0) (g := fun _ => -1) fun p hp => if_pos (by omega)]
    | succ i ih =>
      intro j w k K0 hj h hk hK
      obtain ⟨k, rfl⟩ : ∃ j, k = j + 1 := ⟨k - 1, by omega⟩
      show F36_4B _ _ _ _ _ _ _ _ _
      unfold F36_4B
      simp only [rdI_mk, rdP_mk, rdA_mk, br_dec]
      refine ⟨fun hle => ?_, fun h => by exfalso; omega⟩
      refine h.ldC 2 rfl rfl ?_
      have hrl := h.rd 3 rfl
      show ixS 1 T.la N _ _
      obtain ⟨ld, hl⟩ := hrl.some (by rw [iV_length]; omega)
      rw [hl]
      refine ixS_to rfl (by omega) ?_
      rw [Nat.mul_one]
      have h' : Hs W (pt T.b4 (.cells (T.s es.length).c 96 (0, 0)) :: pt T.b6 (.cells #[.pointer (some ⟨T.rb, 0, none⟩)] 100 (0, 0)) :: pt T.b12 (.cells #[.slice T.la N T.lc] 125 (0, 0)) :: slP 3 1 (some ld) N T.lc (iV N fun p => if p < j then -1 else 0) :: pt T.rb (.cells (R47.mk T.oa N T.oc fr rn).c 48 (0, 0)) :: slP 53 4 T.oa N T.oc (aV N F0) :: slP 4 1 T.na es.length T.nc (bV es.length nw) :: (boxL bb n cum a c es ++ L)) w := by rw [← hl]; exact h
      refine h'.put 3 rfl (by rw [iV_length]; omega) fun w2 h2 => ?_
      rw [iV_set (by omega)] at h2
      have ec : iV N (fun k => if k = j then -1 else if k < j then -1 else 0) = iV N (fun p => if p < j + 1 then -1 else 0) := iV_congr fun p hp => by
        by_cases h1 : p = j
        · rw [if_pos h1, if_pos (by omega)]
        · by_cases h2 : p < j
          · rw [if_neg h1, if_pos h2, if_pos (by omega)]
          · rw [if_neg h1, if_neg h2, if_neg (by omega)]
      rw [ec] at h2
      have h2 : Hs W (pt T.b4 (.cells (T.s es.length).c 96 (0, 0)) :: pt T.b6 (.cells #[.pointer (some ⟨T.rb, 0, none⟩)] 100 (0, 0)) :: pt T.b12 (.cells #[.slice T.la N T.lc] 125 (0, 0)) :: slP 3 1 (some ld) N T.lc (iV N fun p => if p < j + 1 then -1 else 0) :: pt T.rb (.cells (R47.mk T.oa N T.oc fr rn).c 48 (0, 0)) :: slP 53 4 T.oa N T.oc (aV N F0) :: slP 4 1 T.na es.length T.nc (bV es.length nw) :: (boxL bb n cum a c es ++ L)) w2 := h2
      rw [← hl] at h2
      have e1 : IntKind.wrap .i64 ((j : Int) + 1) = ((j + 1 : Nat) : Int) := by rw [wrap_i64 (by omega) (by omega)]; omega
      rw [e1]
      exact ih (j + 1) w2 k K0 (by omega) h2 (by omega) hK
  rw [e4, e6, e12]
  refine ⟨N + 1, loop N 0 w5 _ _ (by omega) ?_ (by omega) fun w6 h7 _g => ?_⟩
  · refine h6.cast ?_
    unfold QC.prs
    rw [iV_congr (N := N) (f := fun p => if p < 0 then -1 else 0) (g := fun _ => 0) fun p hp => if_neg (by omega)]
  · simp only [rdP_mk, rdA_mk, nn_some, add_mk]
    refine h7.ldC 7 rfl rfl ?_
    refine cl (c61 h7) ?_
    rintro _ w7 ⟨b2, rfl, h8⟩
    refine ⟨_, rfl, ?_⟩
    refine c36_5 rfl hm2 hNn hpath h8 fun w8 es' hd h9 _g => ⟨trivial, es', hd, back h9⟩
end
end Go.Proofs.Ytmliokbonkndaaa
