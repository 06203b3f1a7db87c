/-
  Are two chunks alike, two rows of chunks, two answers to a report?
-/
import Derived.Test.YtmliokbonkndaaaRqB
import Derived.Test.YtmliokbonkndaaaObP
namespace Go.Proofs.Ytmliokbonkndaaa
open Go Go.Sh
def byOk (e : En) : Prop := ∀ x ∈ e.data, 0 ≤ x ∧ x < 256
section
variable {W w : World} {L M : List HP} {e : En} {a1 a2 : Option Addr} {k1 k2 : Nat}
theorem c43_1 {b3 b5 b11 b13 : Nat} {Kr : Value → World → Prop} (h3 : At w ⟨b3, 0, none⟩ (e.r a1 k1).l) (h5 : At w ⟨b5, 0, none⟩ (e.r a2 k2).l) (hx : At w ⟨b11, 0, none⟩ (e.pt a1 k1).l) (hy : At w ⟨b13, 0, none⟩ (e.pt a2 k2).l)
    (r1 : Rd w a1 (byV e.data)) (r2 : Rd w a2 (byV e.data)) (hb : byOk e) (hK : Kr (.bool true) w) :
    F43_1 Kr (.pointer (some ⟨b3, 0, none⟩)) (.pointer (some ⟨b5, 0, none⟩)) (.pointer (some ⟨b11, 0, none⟩)) (.pointer (some ⟨b13, 0, none⟩)) w := by
  unfold F43_1
  simp only [rdA_mk]
  refine ldI_c (h3 0 (.int .u32 e.tsn) rfl) (ldI_c (h5 0 (.int .u32 e.tsn) rfl) ?_)
  rw [beq_self_eq_true, br_true]
  refine ldI_c (h3 1 (.int .i64 e.path) rfl) (ldI_c (h5 1 (.int .i64 e.path) rfl) ?_)
  rw [beq_self_eq_true, br_true]
  refine ldI_c (h3 2 (.int .i64 e.times) rfl) (ldI_c (h5 2 (.int .i64 e.times) rfl) ?_)
  rw [beq_self_eq_true, br_true]
  refine ldI_c (h3 3 (.int .i64 e.sent) rfl) (ldI_c (h5 3 (.int .i64 e.sent) rfl) ?_)
  rw [beq_self_eq_true, br_true]
  refine ldI_c (h3 4 (.int .i64 e.miss) rfl) (ldI_c (h5 4 (.int .i64 e.miss) rfl) ?_)
  rw [beq_self_eq_true, br_true]
  refine ldB_c (h3 5 (.bool e.qk) rfl) (ldB_c (h5 5 (.bool e.qk) rfl) ?_)
  rw [beq_self_eq_true, br_true]
  refine ldI_c (h3 6 (.int .i64 e.st) rfl) (ldI_c (h5 6 (.int .i64 e.st) rfl) ?_)
  rw [beq_self_eq_true, br_true]
  simp only [add_add]
  refine ldI_c (hx 0 (.int .u16 e.stream) rfl) (ldI_c (hy 0 (.int .u16 e.stream) rfl) ?_)
  rw [beq_self_eq_true, br_true]
  refine ldI_c (hx 1 (.int .u16 e.ssn) rfl) (ldI_c (hy 1 (.int .u16 e.ssn) rfl) ?_)
  rw [beq_self_eq_true, br_true]
  refine ldI_c (hx 2 (.int .u32 e.proto) rfl) (ldI_c (hy 2 (.int .u32 e.proto) rfl) ?_)
  rw [beq_self_eq_true, br_true]
  refine ldB_c (hx 3 (.bool e.uno) rfl) (ldB_c (hy 3 (.bool e.uno) rfl) ?_)
  rw [beq_self_eq_true, br_true]
  refine ldB_c (hx 5 (.bool e.bg) rfl) (ldB_c (hy 5 (.bool e.bg) rfl) ?_)
  rw [beq_self_eq_true, br_true]
  refine ldB_c (hx 6 (.bool e.en) rfl) (ldB_c (hy 6 (.bool e.en) rfl) ?_)
  rw [beq_self_eq_true, br_true]
  refine ldC_c (hx 4 (.slice a1 e.data.length k1) rfl) ⟨_, _, run_str r1 hb, ?_⟩
  refine ldC_c (hy 4 (.slice a2 e.data.length k2) rfl) ⟨_, _, run_str r2 hb, ?_⟩
  rw [beq_self_eq_true]
  exact hK
theorem pt_at {b : Nat} {T : TypeId} {z : Nat × Nat} (h : w.heap[b]? = some (.cells (e.r a1 k1).c T z)) : At w ⟨b, 0 + 7, none⟩ (e.pt a1 k1).l := by
  refine At.off h fun j v hj => ?_
  match j, hj with
  | 0, hj => exact hj
  | 1, hj => exact hj
  | 2, hj => exact hj
  | 3, hj => exact hj
  | 4, hj => exact hj
  | 5, hj => exact hj
  | 6, hj => exact hj
  | j + 7, hj => simp [R40.l] at hj
theorem c43 (r1 : Rd w a1 (byV e.data)) (r2 : Rd w a2 (byV e.data)) (hb : byOk e) : Calls Try.prog 43 #[(e.r a1 k1).v, (e.r a2 k2).v] w (rt fun v w' => v = .bool true ∧ Same w w') := by
  refine F43_ok ?_
  unfold F43
  refine exR57_of (e.r a1 k1) ⟨rfl, exR57_of (e.r a2 k2) ⟨rfl, ?_⟩⟩
  refine (Hs.start w).alc fun b3 w1 h1 => h1.alc fun b5 w2 h2 => h2.drw fun w7 h7 => ?_
  clear h1 h2
  refine ⟨w7, Pres.of_Same (Fr.refl _), ?_⟩
  simp only [add_mk]
  refine ldR40_of (s := e.pt a1 k1) (pt_at (h7.at 1 rfl)) (ldR40_of (s := e.pt a2 k2) (pt_at (h7.at 0 rfl)) ?_)
  constructor
  · refine (Hs.start w7).alc fun b11 w8 g8 => ⟨Pres.of_Same g8.old, g8.alc fun b13 w9 g9 => ⟨Pres.of_Same g9.old, g9.stcL 1 rfl rfl fun w10 g10 => ⟨Pres.of_Same g10.old, g10.stcL 0 rfl rfl fun w11 g11 => ?_⟩⟩⟩
    have h11 := h7.same g11.old
    refine c43_1 (h11.atL 1 rfl) (h11.atL 0 rfl) (g11.atL 1 rfl) (g11.atL 0 rfl) (h11.rd_old r1) (h11.rd_old r2) hb fun _g => ?_
    simp only [rdB_mk]
    exact ⟨trivial, h11.old⟩
  · refine (Hs.start w7).alc fun b11 w8 g8 => ⟨Pres.of_Same g8.old, g8.alc fun b13 w9 g9 => ⟨Pres.of_Same g9.old, g9.stcL 0 rfl rfl fun w10 g10 => ⟨Pres.of_Same g10.old, g10.stcL 1 rfl rfl fun w11 g11 => ?_⟩⟩⟩
    have h11 := h7.same g11.old
    refine c43_1 (h11.atL 1 rfl) (h11.atL 0 rfl) (g11.atL 0 rfl) (g11.atL 1 rfl) (h11.rd_old r1) (h11.rd_old r2) hb fun _g => ?_
    simp only [rdB_mk]
    exact ⟨trivial, h11.old⟩
/-- two rows of the same chunks -/
theorem c22 {oa ra : Option Addr} {oc rc : Nat} {d1 d2 : List Dt} (h1 : Rd w oa (d1.flatMap recV)) (g1 : ∀ d ∈ d1, Rd w d.2.1 (byV d.1.data)) (h2 : Rd w ra (d2.flatMap recV)) (g2 : ∀ d ∈ d2, Rd w d.2.1 (byV d.1.data)) (he : fsts d1 = fsts d2) (hb : ∀ e ∈ fsts d2, byOk e) (hl : d2.length ≤ 1048576) :
    Calls Try.prog 22 #[.slice oa d1.length oc, .slice ra d2.length rc] w (rt fun v w' => v = .bool true ∧ Same w w') := by
  refine F22_ok ?_
  unfold F22
  simp only [rdC_mk]
  have hlen : d1.length = d2.length := by
    have := congrArg List.length he
    simpa [fsts] using this
  rw [hlen, show (((d2.length : Nat) : Int) != ((d2.length : Nat) : Int)) = false by simp, br_false]
  have loop : ∀ (i j : Nat) (w1 : World) (k : Nat) (K0 : World → Prop) (Kr : Value → World → Prop), j + i = d2.length → Same w w1 → i < k → (∀ w', Same w w' → K0 w') →
      F22_1 K0 Kr k (.slice oa d2.length oc) (.slice ra d2.length rc) (.int .i64 (j : Int)) w1 := by
    intro i
    induction i with
    | zero =>
      intro j w1 k K0 Kr hj hs hk hK
      obtain ⟨k, rfl⟩ : ∃ j, k = j + 1 := ⟨k - 1, by omega⟩
      show F22_1B _ _ _ _ _ _ _
      unfold F22_1B
      simp only [rdC_mk, rdI_mk, br_dec]
      exact ⟨fun h => by exfalso; omega, fun _ => hK w1 hs⟩
    | succ i ih =>
      intro j w1 k K0 Kr hj hs hk hK
      obtain ⟨k, rfl⟩ : ∃ j, k = j + 1 := ⟨k - 1, by omega⟩
      show F22_1B _ _ _ _ _ _ _
      unfold F22_1B
      simp only [rdC_mk, rdI_mk, br_dec]
      refine ⟨fun _ => ?_, fun h => by exfalso; omega⟩
      unfold drw
      have hs' : Same w w1.drew := hs.trans (Fr.refl w1).drew fun _ _ x => x
      generalize w1.drew = w4 at hs' ⊢
      obtain ⟨x, hx⟩ : ∃ x, d1[j]? = some x := ⟨d1[j]'(by omega), by simp⟩
      obtain ⟨y, hy⟩ : ∃ y, d2[j]? = some y := ⟨d2[j]'(by omega), by simp⟩
      have hxy : x.1 = y.1 := by
        have a := fsts_at hx
        rw [he, fsts_at hy] at a
        exact (Option.some.inj a).symm
      have m1 : Rd w4 oa (d1.flatMap recV) := h1.fr hs' fun _ _ x => x
      have m2 : Rd w4 ra (d2.flatMap recV) := h2.fr hs' fun _ _ x => x
      obtain ⟨oad, hoa⟩ := m1.some (by rw [recV_flat]; omega)
      obtain ⟨rad, hra⟩ := m2.some (by rw [recV_flat]; omega)
      rw [hoa] at m1 ⊢
      rw [hra] at m2 ⊢
      refine ixS_to (p := j) rfl (by omega) (ldR57_of (s := x.1.r x.2.1 x.2.2) (m1.atI recV_length hx) ?_)
      refine ixS_to (p := j) rfl (by omega) (ldR57_of (s := y.1.r y.2.1 y.2.2) (m2.atI recV_length hy) ?_)
      have q1 := (g1 x (List.mem_of_getElem? hx)).fr hs' fun _ _ x => x
      have q2 := (g2 y (List.mem_of_getElem? hy)).fr hs' fun _ _ x => x
      rw [hxy] at q1 ⊢
      refine cl (c43 q1 q2 (hb _ (List.mem_of_getElem? (fsts_at hy)))) ?_
      rintro _ w5 ⟨rfl, s5⟩
      refine ⟨_, rfl, ?_⟩
      rw [Bool.not_true, br_false, ← hoa, ← hra]
      have e1 : IntKind.wrap .i64 ((j : Int) + 1) = ((j + 1 : Nat) : Int) := by rw [wrap_i64 (by omega) (by omega)]; omega
      rw [e1]
      exact ih (j + 1) w5 k K0 Kr (by omega) (hs'.trans s5 fun _ _ x => x) (by omega) hK
  exact ⟨d2.length + 1, loop d2.length 0 w _ _ _ (by omega) (Fr.refl w) (by omega) fun w' s _g => ⟨trivial, s⟩⟩
theorem c45 {oa ra : Option Addr} {oc rc N : Nat} {F G : Nat → R52} {fr rn : Int} (h1 : Rd w oa (aV N F)) (h2 : Rd w ra (aV N G)) (he : ∀ p < N, F p = G p) (hN : N ≤ 1048576) :
    Calls Try.prog 45 #[(R47.mk oa N oc fr rn).v, (R47.mk ra N rc fr rn).v] w (rt fun v w' => v = .bool true ∧ Same w w') := by
  refine F45_ok ?_
  unfold F45
  refine exR47_of (R47.mk oa N oc fr rn) ⟨rfl, exR47_of (R47.mk ra N rc fr rn) ⟨rfl, ?_⟩⟩
  refine (Hs.start w).alc fun b3 w1 g1 => g1.alc fun b5 w2 g2 => ?_
  simp only [add_mk]
  refine g2.ldI 1 rfl rfl (g2.ldI 0 rfl rfl ?_)
  show br (fr != fr) _ _
  rw [show (fr != fr) = false by simp, br_false]
  refine g2.ldI 1 rfl rfl (g2.ldI 0 rfl rfl ?_)
  show br (rn != rn) _ _
  rw [show (rn != rn) = false by simp, br_false]
  refine g2.ldC 1 rfl rfl (g2.ldC 0 rfl rfl ?_)
  show br (((N : Nat) : Int) != ((N : Nat) : Int)) _ _
  rw [show (((N : Nat) : Int) != ((N : Nat) : Int)) = false by simp, br_false]
  unfold F45_2
  simp only [rdA_mk]
  have loop : ∀ (i j : Nat) (w1 : World) (k : Nat) (K0 : World → Prop) (Kr : Value → World → Prop), j + i = N → Hs w [pt b5 (.cells (R47.mk ra N rc fr rn).c 48 (0, 0)), pt b3 (.cells (R47.mk oa N oc fr rn).c 48 (0, 0))] w1 → i < k → (∀ w', Same w w' → K0 w') →
      F45_1 K0 Kr k (.pointer (some ⟨b3, 0, none⟩)) (.pointer (some ⟨b5, 0, none⟩)) (.int .i64 (j : Int)) w1 := by
    intro i
    induction i with
    | zero =>
      intro j w1 k K0 Kr hj hs hk hK
      obtain ⟨k, rfl⟩ : ∃ j, k = j + 1 := ⟨k - 1, by omega⟩
      show F45_1B _ _ _ _ _ _ _
      unfold F45_1B
      simp only [rdA_mk, rdI_mk, add_mk]
      refine hs.ldC 1 rfl rfl ?_
      rw [br_dec]
      exact ⟨fun h => by exfalso; have h : (j : Int) < (N : Int) := h; omega, fun _ => hK w1 hs.old⟩
    | succ i ih =>
      intro j w1 k K0 Kr hj hs hk hK
      obtain ⟨k, rfl⟩ : ∃ j, k = j + 1 := ⟨k - 1, by omega⟩
      show F45_1B _ _ _ _ _ _ _
      unfold F45_1B
      simp only [rdA_mk, rdI_mk, add_mk]
      refine hs.ldC 1 rfl rfl ?_
      rw [br_dec]
      refine ⟨fun _ => ?_, fun h => by exfalso; have h : ¬ (j : Int) < (N : Int) := h; omega⟩
      refine hs.drw fun w4 h4 => ?_
      have m1 := h4.rd_old h1
      have m2 := h4.rd_old h2
      obtain ⟨oad, hoa⟩ := m1.some (by rw [aV_length]; omega)
      obtain ⟨rad, hra⟩ := m2.some (by rw [aV_length]; omega)
      refine h4.ldC 1 rfl rfl ?_
      show ixS 4 oa N _ _
      rw [hoa] at m1 ⊢
      refine ixS_to (p := j) rfl (by omega) (ldR52_of (s := F j) (fun q v hq => ?_) ?_)
      · rw [add_add]; exact m1.at (aV_at (by omega) hq)
      refine h4.ldC 0 rfl rfl ?_
      show ixS 4 ra N _ _
      rw [hra] at m2 ⊢
      refine ixS_to (p := j) rfl (by omega) (ldR52_of (s := G j) (fun q v hq => ?_) ?_)
      · rw [add_add]; exact m2.at (aV_at (by omega) hq)
      rw [he j (by omega)]
      have key := neq_flat (P := Try.prog) (w := w4) (t := 53) (x := .tmp 38) (y := .tmp 43) (vs := (G j).l) (us := (G j).l) t53 (mR52 _) (mR52 _)
      rw [eqvs_self (mR52 _)] at key
      refine ⟨false, w4, key, ?_⟩
      rw [br_false]
      have e1 : IntKind.wrap .i64 ((j : Int) + 1) = ((j + 1 : Nat) : Int) := by rw [wrap_i64 (by omega) (by omega)]; omega
      rw [e1]
      exact ih (j + 1) w4 k K0 Kr (by omega) h4 (by omega) hK
  refine ⟨N + 1, loop N 0 w2 _ _ _ (by omega) g2 (by omega) fun w' s _g => ?_⟩
  intro _g2
  exact ⟨true, rfl, rfl, s⟩
end
end Go.Proofs.Ytmliokbonkndaaa
namespace Go.Proofs.Ytmliokbonkndaaa
open Go Go.Sh
/-! chunks that turn, each by its place -/
def hD (P : Nat → Bool) (f : Nat → En → En) (ds : List Dt) : List Dt := ds.mapIdx fun i d => if P i = true then (f i d.1, d.2) else d
theorem hD_length (P : Nat → Bool) (f : Nat → En → En) (ds : List Dt) : (hD P f ds).length = ds.length := by simp [hD]
theorem hD_get {P : Nat → Bool} {f : Nat → En → En} {ds : List Dt} {i : Nat} (h : P i = false) : (hD P f ds)[i]? = ds[i]? := by
  unfold hD
  rw [List.getElem?_mapIdx]
  cases ds[i]? with
  | none => rfl
  | some p => simp [h]
theorem hD_set {P : Nat → Bool} {f : Nat → En → En} {ds : List Dt} {i : Nat} {d : Dt} (h : ds[i]? = some d) (hP0 : P i = false) : (hD P f ds).set i (f i d.1, d.2) = hD (fun k => P k || decide (k = i)) f ds := by
  have hlt := (List.getElem?_eq_some_iff.1 h).1
  apply List.ext_getElem?
  intro k
  rw [List.getElem?_set]
  unfold hD
  by_cases hk : i = k
  · subst hk
    rw [if_pos rfl, if_pos (by simpa using hlt), List.getElem?_mapIdx, h]
    simp
  · rw [if_neg hk, List.getElem?_mapIdx, List.getElem?_mapIdx]
    cases ds[k]? with
    | none => rfl
    | some q => simp [show ¬ k = i from fun e => hk e.symm]
theorem hD_congr {P P' : Nat → Bool} {f : Nat → En → En} {ds : List Dt} (h : ∀ i < ds.length, P i = P' i) : hD P f ds = hD P' f ds := by
  unfold hD
  apply List.ext_getElem?
  intro k
  rw [List.getElem?_mapIdx, List.getElem?_mapIdx]
  cases hk : ds[k]? with
  | none => rfl
  | some q => rw [Option.map_some, Option.map_some, h k (List.getElem?_eq_some_iff.1 hk).1]
theorem hD_none (f : Nat → En → En) (ds : List Dt) : hD (fun _ => false) f ds = ds := by
  unfold hD
  apply List.ext_getElem?
  intro k
  rw [List.getElem?_mapIdx]
  cases ds[k]? <;> simp
theorem hD_fsts (P : Nat → Bool) (f : Nat → En → En) (ds : List Dt) (k : Nat) : (fsts (hD P f ds))[k]? = (fsts ds)[k]?.map fun e => if P k = true then f k e else e := by
  unfold hD fsts
  simp only [List.getElem?_map, List.getElem?_mapIdx]
  cases ds[k]? with
  | none => rfl
  | some q =>
    simp only [Option.map_some]
    split <;> rfl
theorem hD_all (f : Nat → En → En) (ds : List Dt) : fsts (hD (fun _ => true) f ds) = (fsts ds).mapIdx f := by
  apply List.ext_getElem?
  intro k
  rw [hD_fsts, List.getElem?_mapIdx]
  simp
theorem hD_step {f : Nat → En → En} {ds : List Dt} {j : Nat} {d : Dt} (h : ds[j]? = some d) : (hD (fun k => decide (k < j)) f ds).set j (f j d.1, d.2) = hD (fun k => decide (k < j + 1)) f ds := by
  rw [hD_set h (by simp)]
  refine hD_congr fun i _ => ?_
  by_cases h1 : i < j
  · simp [h1]; omega
  · by_cases h2 : i = j
    · simp [h2]
    · have : ¬ i < j + 1 := by omega
      simp [h1, h2, this]
section
variable {W w : World} {L M : List HP} {rb : Nat} {n cum : Int} {a : Option Addr} {c : Nat} {ds : List Dt} {d d' : Dt} {j : Nat} {e : En}
theorem datP_eq (h1 : d'.1.data = d.1.data) (h2 : d'.2 = d.2) : datP d' = datP d := by unfold datP; rw [h1, h2]
/-- one cell of one chunk -/
theorem ref_put {ad : Addr} {k : Nat} {v : Value} {K : World → Prop} (h : Hs W (refL rb n cum (some ad) c ds ++ L) w) (hd : ds[j]? = some d) (hk : k < 14) (hv : recV d' = (recV d).set k v) (hdat : d'.1.data = d.1.data) (h2 : d'.2 = d.2)
    (hK : ∀ w', Hs W (refL rb n cum (some ad) c (ds.set j d') ++ L) w' → K w') : stc ((ad.add (j * 14)).add k) v w K := by
  rw [add_add]
  have hlt := (List.getElem?_eq_some_iff.1 hd).1
  refine h.put 1 rfl (by rw [recV_flat]; omega) fun w' h' => hK w' ?_
  have e1 : (ds.set j d').map datP = ds.map datP := by
    rw [List.map_set]
    refine set_id ?_
    rw [List.getElem?_map, hd, Option.map_some, datP_eq hdat h2]
  have e2 : (ds.set j d').flatMap recV = (ds.flatMap recV).set (j * 14 + k) v := flat_set (m := 14) recV_length hd hk hv
  refine h'.cast ?_
  unfold refL outL
  rw [e1, e2, List.length_set]
  rfl
theorem ref_some (h : RQ w rb n cum a c ds) (hd : ds[j]? = some d) : ∃ ad, a = some ad := h.row.some (by have := (List.getElem?_eq_some_iff.1 hd).1; rw [recV_flat]; omega)
def PutQ (W : World) (L : List HP) (rb : Nat) (n cum : Int) (a : Option Addr) (c : Nat) (ds : List Dt) (e : En) (path now : Int) (v : Value) (w' : World) : Prop :=
  (putE n path now e ds.length ≠ 0 ∧ v = .tuple #[.int .u32 0, .int .i64 (putE n path now e ds.length)] ∧ Hs W (refL rb n cum a c ds ++ L) w') ∨
  (putE n path now e ds.length = 0 ∧ v = .tuple #[.int .u32 (nxt cum ds.length), .int .i64 0] ∧ ∃ a' c' x, Hs W (refL rb n cum a' c' (ds ++ [(e.put (nxt cum ds.length) path now, x)]) ++ L) w')
theorem askE_has {n path now : Int} (h : ¬ (0 ≤ path ∧ path < n)) : askE n path now = 90 := by unfold askE; rw [if_pos (by omega)]
theorem askE_time {n path now : Int} (h : 0 ≤ path ∧ path < n) (h2 : ¬ (0 ≤ now ∧ now ≤ 1099511627776)) : askE n path now = 1 := by unfold askE; rw [if_neg (by omega), if_pos (by omega)]
theorem askE_ok {n path now : Int} (h : 0 ≤ path ∧ path < n) (h2 : 0 ≤ now ∧ now ≤ 1099511627776) : askE n path now = 0 := by unfold askE; rw [if_neg (by omega), if_neg (by omega)]
theorem c41 (h : Hs W (refL rb n cum a c ds ++ L) w) (hl : ds.length ≤ 1048576) (hc : 0 ≤ cum ∧ cum < 4294967296) {da : Option Addr} {dc : Nat} (hr : Rd w da (byV e.data)) (hdn : da = none → dc = 0) (path now : Int) :
    Calls Try.prog 41 #[.pointer (some ⟨rb, 0, none⟩), .int .i64 path, (e.pt da dc).v, .int .i64 now] w (rt (PutQ W L rb n cum a c ds e path now)) := by
  refine F41_ok ?_
  unfold F41
  simp only [rdP_mk, rdI_mk]
  refine exR40_of (e.pt da dc) ⟨rfl, ?_⟩
  refine alcS h fun b5 w1 s1 h1 => ?_
  have hr1 : Rd w1 da (byV e.data) := hr.fr s1 fun _ _ x => x
  refine clr (c65 (ref_rqX (X := [_]) h1) path) ⟨_, rfl, ?_⟩
  by_cases hh : 0 ≤ path ∧ path < n
  rotate_left
  · rw [show decide (0 ≤ path ∧ path < n) = false by simpa using hh, Bool.not_false, br_true]
    have e1 : putE n path now e ds.length = 90 := by unfold putE; rw [askE_has hh, if_pos (by omega)]
    exact .inl ⟨by rw [e1]; decide, by rw [e1], h1.drop⟩
  rw [show decide (0 ≤ path ∧ path < n) = true by simpa using hh, Bool.not_true, br_false]
  refine clr (c66 now w1) ⟨_, rfl, ?_⟩
  by_cases ht : 0 ≤ now ∧ now ≤ 1099511627776
  rotate_left
  · rw [show decide (0 ≤ now ∧ now ≤ 1099511627776) = false by simpa using ht, Bool.not_false, br_true]
    have e1 : putE n path now e ds.length = 1 := by unfold putE; rw [askE_time hh ht, if_pos (by omega)]
    exact .inl ⟨by rw [e1]; decide, by rw [e1], h1.drop⟩
  rw [show decide (0 ≤ now ∧ now ≤ 1099511627776) = true by simpa using ht, Bool.not_true, br_false]
  have hp : putE n path now e ds.length = if e.data.length = 0 ∨ e.data.length > 65536 then 1 else if ds.length ≥ 32768 then 3 else 0 := by unfold putE; rw [askE_ok hh ht, if_neg (by omega)]
  simp only [add_mk]
  refine h1.ldC 0 rfl rfl ?_
  rw [br_iff]
  refine ⟨fun h0 => ?_, fun h0 => ?_⟩
  · have h0 : ((e.data.length : Int) == 0) = true := h0
    rw [beq_iff_eq] at h0
    rw [if_pos (.inl (by omega))] at hp
    exact .inl ⟨by rw [hp]; decide, by rw [hp], h1.drop⟩
  have h0 : e.data.length ≠ 0 := by
    intro hx
    have : ((e.data.length : Int) == 0) = true := by rw [hx]; rfl
    exact absurd (this.symm.trans h0) (by decide)
  refine h1.ldC 0 rfl rfl ?_
  rw [br_dec]
  refine ⟨fun h2 => ?_, fun h2 => ?_⟩
  · have h2 : (e.data.length : Int) > 65536 := h2
    rw [if_pos (.inr (by omega))] at hp
    exact .inl ⟨by rw [hp]; decide, by rw [hp], h1.drop⟩
  have h2 : ¬ (e.data.length : Int) > 65536 := h2
  rw [if_neg (by omega)] at hp
  unfold F41_1
  simp only [rdP_mk, rdI_mk, rdA_mk, nn_some, add_mk]
  refine h1.ldC 1 rfl rfl ?_
  show br (decide (((ds.length : Nat) : Int) ≥ 32768)) _ _
  rw [br_dec]
  refine ⟨fun h3 => ?_, fun h3 => ?_⟩
  · rw [if_pos (by omega)] at hp
    exact fun _ => .inl ⟨by rw [hp]; decide, by rw [hp], h1.drop⟩
  rw [if_neg (by omega)] at hp
  refine ⟨_, _, _, _, run_b0 w1, ?_⟩
  have h4 := h1.void 5 1
  have sv : Same w1 (w1.alloc (.cells #[] 5)) := (Fr.refl w1).alloc _
  have hr2 : Rd (w1.alloc (.cells #[] 5)) da (byV e.data) := hr1.fr sv fun _ _ x => x
  generalize w1.alloc (.cells #[] 5) = w2 at h4 hr2 ⊢
  refine h4.ldC 1 rfl rfl ?_
  show ∃ l10a l10n l10c w11, Sem.run Try.prog (Builtin.append_ #[23, 23] 23 #[_, .slice da e.data.length dc]) w2 = _ ∧ _
  refine h4.appendA E23 0 rfl (m := e.data.length) (by rw [byV_length]; omega) hr2 hdn (byV_one e.data) (by omega) (by omega) fun sa sc w3 h5 _ => ?_
  rw [List.nil_append, Nat.zero_add] at *
  refine h5.stc 1 rfl (by simp [R40.c]) fun w4 h6 => ?_
  simp only [Nat.zero_add] at h6
  have h6 : Hs W ([slP 5 1 sa e.data.length sc (byV e.data), pt b5 (.cells (e.pt sa sc).c 41 (0, 0))] ++ (refL rb n cum a c ds ++ L)) w4 := h6
  refine cl (c48 (ref_rqX h6) hl hc) ?_
  rintro _ w5 ⟨rfl, s5⟩
  refine ⟨_, rfl, ?_⟩
  have h7 := h6.same s5
  refine h7.drw fun w6 h8 => ?_
  clear h1 h4 h5 h6 h7
  refine h8.ldC 2 rfl rfl ?_
  refine ldR40_of (s := e.pt sa sc) (h8.atL 1 rfl) ?_
  refine alcS h8 fun b20 w7 s7 h9 => ⟨Pres.of_Same s7, ?_⟩
  obtain ⟨e', he'⟩ : ∃ e', e' = e.put (nxt cum ds.length) path now := ⟨_, rfl⟩
  have h9 : Hs W (pt b20 (.cells (e'.r sa sc).c 58 (0, 0)) :: slP 5 1 sa e.data.length sc (byV e.data) :: pt b5 (.cells (e.pt sa sc).c 41 (0, 0)) :: (refL rb n cum a c ds ++ L)) w7 := by rw [he']; exact h9
  refine h9.append E54 4 rfl (b := ⟨b20, 0, none⟩) (m := 1) (news := (e'.r sa sc).l) rfl (fun j u hj => ⟨_, rfl, ?_⟩) (rec_one e' sa sc) (by omega) (by omega) fun a2 c2 w8 h10 _ => ?_
  · rw [add_mk, Nat.zero_add, cell_at (h9.at 0 rfl)]
    have : (e'.r sa sc).c.toList[j]? = some u := hj
    simpa using this
  have h10 : Hs W (pt b20 (.cells (e'.r sa sc).c 58 (0, 0)) :: slP 5 1 sa e.data.length sc (byV e.data) :: pt b5 (.cells (e.pt sa sc).c 41 (0, 0)) :: pt rb (.cells (R78.mk n cum a ds.length c).c 107 (0, 0)) :: slP 58 14 a2 (ds.length + 1) c2 (ds.flatMap recV ++ (e'.r sa sc).l) :: (ds.map datP ++ L)) w8 := h10
  refine h10.stc 3 rfl (by simp [R78.c]) fun w9 h11 => ?_
  have h11 : Hs W (slP 5 1 sa e.data.length sc (byV e.data) :: pt b5 (.cells (e.pt sa sc).c 41 (0, 0)) :: pt rb (.cells (R78.mk n cum a2 (ds.length + 1) c2).c 107 (0, 0)) :: slP 58 14 a2 (ds.length + 1) c2 (ds.flatMap recV ++ (e'.r sa sc).l) :: (ds.map datP ++ L)) w9 := h11.drop
  have h12 := h11.erase 1
  have h13 : Hs W ((pt rb (.cells (R78.mk n cum a2 (ds.length + 1) c2).c 107 (0, 0)) :: slP 58 14 a2 (ds.length + 1) c2 (ds.flatMap recV ++ (e'.r sa sc).l) :: ds.map datP) ++ (slP 5 1 sa e.data.length sc (byV e.data) :: L)) w9 := h12.perm (List.perm_middle (l₁ := pt rb (.cells (R78.mk n cum a2 (ds.length + 1) c2).c 107 (0, 0)) :: slP 58 14 a2 (ds.length + 1) c2 (ds.flatMap recV ++ (e'.r sa sc).l) :: ds.map datP)).symm
  refine fun _ => .inr ⟨hp, rfl, a2, c2, (sa, sc), ?_⟩
  rw [← he']
  refine h13.cast ?_
  have hdd : e'.data = e.data := by rw [he']; rfl
  unfold refL outL
  simp [recV, datP, hdd]
end
end Go.Proofs.Ytmliokbonkndaaa
