/- Own text: part of the shallow reading of the code and of the contracts that are proved over it. -/
import Derived.Test.YtccffjlahpfdaaaDoorIbM
import Derived.Test.YtccffjlahpfdaaaDoorShV
namespace Go.Proofs.YtccffjlahpfdaaaDoor
open Go Go.Sh Go.Sp
section
variable {W w : World} {L : List HP} {bb rr : Nat} {D : BD} {R : RD} {x : BX}
/-! alive -/
def xa : BX := (x0 1 200 true).come 3
def xb : BX := xa.come 4
def xc : BX := xb.fix [4]
theorem ea1 : addR (x0 1 200 true).cum (x0 1 200 true).S 3 = (true, 0) := by decide +kernel
theorem ea2 : addR xa.cum xa.S 4 = (true, 0) := by decide +kernel
theorem ea3 : ((xc.fx.length : Int) - xb.fx.length) = 1 := by decide +kernel
theorem ea4 : gpsOf xc 8 = [(3, 3)] := by decide +kernel
theorem ea5 : nrOf xc 8 = [(4, 4)] := by decide +kernel
theorem ea6 : xc.nr = true ∧ xc.cum = 0 := by decide +kernel
theorem fl60 : flT Tryd.prog 60 [.int .u16, .int .u16] = true := by kernel_rfl
theorem c19 (ht : TB w) : Calls Tryd.prog 19 #[] w (rt fun v w' => v = .bool true ∧ Same w w') := by
  refine F19_ok ?_
  unfold F19
  refine cl (c28 (Hs.start w) 1 200 true) ?_
  rintro _ w1 (⟨hN, _⟩ | ⟨_, bb, D, rfl, h1⟩)
  · exact absurd (by decide) hN
  refine ⟨_, _, rfl, ?_⟩
  rw [show ((0 : Int) != 0) = false from rfl, br_false, Option.isNone_some, br_false]
  unfold F19_1
  simp only [rdP_mk]
  have o1 : OkX (x0 1 200 true) := x0_ok (by decide)
  refine cl (c10 ht h1 o1 3) ?_
  rintro _ w2 ⟨rfl, D2, h2⟩
  rw [ea1]
  refine ⟨_, _, rfl, ?_⟩
  have o2 : OkX xa := come_ok o1 (box_RngX h1) 3
  refine cl (c10 ht (x := xa) h2 o2 4) ?_
  rintro _ w3 ⟨rfl, D3, h3⟩
  rw [ea2]
  refine ⟨_, _, rfl, ?_⟩
  have o3 : OkX xb := come_ok o2 (box_RngX (x := xa) h2) 4
  refine h3.alc fun g w4 h4 => ?_
  have h4 : Hs w (boxL bb D3 xb ++ [pt g (.cells #[.int .u32 4] 22 (0, 0))]) w4 := Hs.grp (Gs := [[_], boxL bb D3 xb]) (L := []) (n := 2) h4 rfl [] [1, 0] (by decide)
  refine cl (c12 ht (x := xb) (l := [4]) h4 o3 (by decide) fun fx1 w5 h5 => ?_) ?_
  · intro j u hj
    have hg := h5.at 4 rfl
    refine ⟨_, rfl, ?_⟩
    rw [add_mk, cell_at hg, Nat.zero_add, ← Array.getElem?_toList]
    exact hj
  rintro _ w5 ⟨rfl, h5⟩
  refine ⟨_, rfl, ?_⟩
  have o5 : OkX xc := fix_ok o3 [4]
  refine cl (c17 ht (x := xc) h5 o5 9000 8) ?_
  rintro _ w6 (⟨hN, _⟩ | ⟨_, r, D6, rfl, h6⟩)
  · exact absurd (by decide) hN
  refine ⟨_, _, _, _, _, _, _, _, _, _, _, _, _, _, _, _, _, _, _, _, _, _, _, _, _, _, rfl, h6.alc fun b1 w7 h7 => ?_⟩
  refine sto15_ok (c0 := zCH) h7 0 rfl (repCH xc 9000 8 r) fun w8 h8 => ?_
  rw [br_true, br_true, show ((0 : Int) == 0) = true from rfl, br_true, br_true, br_true]
  have e3 : ((xb.fix [4]).fx.length : Int) - xb.fx.length = 1 := ea3
  rw [e3, show ((1 : Int) == 1) = true from rfl, br_true]
  have hch : repCH xc 9000 8 r = ⟨16, 0, 0, 0, 0, 0, 0, 9000, 0, 0, r.ga, 1, r.gc, r.na, 1, r.nc, r.da, (dupOf xc 8).length, r.dc, none, 0, 0, none, 0, 0⟩ := by
    unfold repCH
    rw [ea4, ea5, ea6.1, ea6.2]; rfl
  have hr := h8.rd 2 rfl
  rw [ea5] at hr
  rw [hch] at h8
  refine h8.ldI 0 rfl rfl ?_
  show br ((16 : Int) == 16) _ _
  rw [show ((16 : Int) == 16) = true from rfl, br_true]
  refine h8.ldI 0 rfl rfl ?_
  show br ((0 : Int) == 0) _ _
  rw [show ((0 : Int) == 0) = true from rfl, br_true]
  refine h8.ldC 0 rfl rfl ?_
  show br (((1 : Nat) : Int) == 1) _ _
  rw [show (((1 : Nat) : Int) == 1) = true from rfl, br_true]
  refine h8.ldC 0 rfl rfl ?_
  show br (((1 : Nat) : Int) == 1) _ _
  rw [show (((1 : Nat) : Int) == 1) = true from rfl, br_true]
  refine h8.ldC 0 rfl rfl ?_
  obtain ⟨nd, hnd⟩ := hr.some (by decide)
  rw [hnd] at hr ⊢
  refine ixS_of (show (0 : Int) ≤ 0 by decide) (show (0 : Int) < ((1 : Nat) : Int) by decide) ?_
  simp only [add_add]
  refine ldI_c (hr.at (j := 0) rfl) (ldI_c (hr.at (j := 1) rfl) ?_)
  have key := eql_flat (P := Tryd.prog) (w := w8) (t := 60) (x := .tmp 84) (y := .tmp 85) (vs := [.int .u16 4, .int .u16 4]) (us := [.int .u16 4, .int .u16 4]) fl60 ⟨⟨_, rfl⟩, ⟨_, rfl⟩, trivial⟩ ⟨⟨_, rfl⟩, ⟨_, rfl⟩, trivial⟩
  refine ⟨_, _, key, fun _g => ?_⟩
  exact ⟨true, rfl, rfl, h8.1⟩
/-! a script -/
structure OpB where
  o : OB
  a : Option Addr
  c : Nat
def opB (q : OpB) : List Value := [.int .i64 q.o.kind, .slice q.a q.o.at_.length q.c, .int .i64 q.o.n]
theorem opB_len (q : OpB) : (opB q).length = 3 := rfl
structure OpOk (W : World) (q : OpB) : Prop where
  rd : Rd W q.a (nV q.o.at_)
  rng : rngL q.o.at_
  len : q.o.at_.length * 4 ≤ 140737488351232
def runX (x : BX) (qs : List OpB) : BX := qs.foldl (fun x q => x.act q.o) x
theorem runX_take {x : BX} {qs : List OpB} {j : Nat} {q : OpB} (h : qs[j]? = some q) : runX x (qs.take (j + 1)) = (runX x (qs.take j)).act q.o := by
  unfold runX; rw [List.take_add_one, h]; simp
theorem step_op {sa : Option Addr} {sc : Nat} {qs : List OpB} (ht : TB W) (hr : Rd W sa (qs.flatMap opB)) (hq : ∀ q ∈ qs, OpOk W q) {j : Nat} {q : OpB} (hj : qs[j]? = some q) (h : Hs W (boxL bb D x ++ (refL rr R x ++ L)) w) (ho : OkX x)
    {K : Bool → World → Prop} (hK : ∀ w' D' R', Hs W (boxL bb D' (x.act q.o) ++ (refL rr R' (x.act q.o) ++ L)) w' → OkX (x.act q.o) → K true w') :
    ixS 3 sa qs.length (j : Int) fun a5 => ldI .i64 (a5.add 0) w fun n6 => ldC (a5.add 1) w fun l7a l7n l7c => ldI .i64 (a5.add 2) w fun n8 => Calls Tryd.prog 16 #[.pointer (some ⟨bb, 0, none⟩), .pointer (some ⟨rr, 0, none⟩), .agg #[.int .i64 n6, .slice l7a l7n l7c, .int .i64 n8]] w fun e11 w10 => ∃ b9, e11 = .returned (.bool b9) ∧ K b9 w10 := by
  have hjl := (List.getElem?_eq_some_iff.1 hj).1
  have hq := hq q (List.mem_of_getElem? hj)
  have hr1 := h.rd_old hr
  obtain ⟨sd, hsd⟩ := hr1.some (by rw [flat_length opB_len]; omega)
  subst hsd
  refine ixS_of (by omega) (by omega) ?_
  rw [Int.toNat_natCast]
  simp only [add_add]
  refine ldI_c (hr1.at (flat_at opB_len hj rfl)) (ldC_c (hr1.at (flat_at opB_len hj rfl)) (ldI_c (hr1.at (flat_at opB_len hj rfl)) ?_))
  refine cl (c16 ht h ho hq.rd hq.rng hq.len) ?_
  rintro _ w1 ⟨rfl, D', R', h1⟩
  exact ⟨_, rfl, hK w1 D' R' h1 (act_ok ho (box_RngX h) q.o)⟩
theorem c8 {sa : Option Addr} {sc : Nat} {qs : List OpB} (ht : TB W) (hr : Rd W sa (qs.flatMap opB)) (hq : ∀ q ∈ qs, OpOk W q) (h : Hs W L w) (first delay : Int) (nr : Bool) :
    Calls Tryd.prog 8 #[.int .u32 first, .int .i64 delay, .bool nr, .slice sa qs.length sc] w (rt fun v w' => (¬ (0 ≤ delay ∧ delay ≤ 500) ∧ v = .tuple #[.pointer none, .pointer none, .bool true] ∧ Hs W L w') ∨ ((0 ≤ delay ∧ delay ≤ 500) ∧ ∃ bb D rr R, v = .tuple #[.pointer (some ⟨bb, 0, none⟩), .pointer (some ⟨rr, 0, none⟩), .bool true] ∧ Hs W (boxL bb D (runX (x0 first delay nr) (qs.take 200)) ++ (refL rr R (runX (x0 first delay nr) (qs.take 200)) ++ L)) w' ∧ OkX (runX (x0 first delay nr) (qs.take 200)))) := by
  refine F8_ok ?_
  unfold F8
  simp only [rdI_mk, rdB_mk, rdC_mk]
  refine cl (c28 h first delay nr) ?_
  have eI : ∀ x : Int, (x != x) = false := fun x => by simp
  rintro _ w1 (⟨hN, rfl, rfl⟩ | ⟨hN, bb, D, rfl, h1⟩)
  · refine ⟨_, _, rfl, cl (c29 h first delay nr) ?_⟩
    rintro _ w2 (⟨_, rfl, rfl⟩ | ⟨hN', _⟩)
    · refine ⟨_, _, rfl, ?_⟩
      rw [eI, br_false]
      simp only [Option.isNone_none]
      rw [show (!(true == true)) = false from rfl, br_false]
      unfold F8_3
      simp only [rdP_mk, rdC_mk]
      refine ⟨1, ?_⟩
      show F8_2B _ _ _ _ _ _ _ _
      unfold F8_2B
      simp only [rdP_mk, rdC_mk, rdI_mk, Option.isNone_none, Bool.not_true, br_false]
      intro _g _g
      exact ⟨true, rfl, .inl ⟨hN, rfl, h⟩⟩
    · exact absurd hN' hN
  · refine ⟨_, _, rfl, cl (c29 h1 first delay nr) ?_⟩
    rintro _ w2 (⟨hN', _⟩ | ⟨_, rr, R, rfl, h2⟩)
    · exact absurd hN hN'
    refine ⟨_, _, rfl, ?_⟩
    rw [eI, br_false]
    simp only [Option.isNone_some]
    rw [show (!(false == false)) = false from rfl, br_false]
    have h3 : Hs W (boxL bb D (x0 first delay nr) ++ (refL rr R (x0 first delay nr) ++ L)) w2 := Hs.flip.1 h2
    unfold F8_3
    simp only [rdP_mk, rdC_mk]
    have loop : ∀ (i j : Nat) (D : BD) (R : RD) (w3 : World) (k : Nat) (K0 : Value → Value → World → Prop) (Kr : Value → Value → Value → World → Prop), j + i = min 200 qs.length → OkX (runX (x0 first delay nr) (qs.take j)) → Hs W (boxL bb D (runX (x0 first delay nr) (qs.take j)) ++ (refL rr R (runX (x0 first delay nr) (qs.take j)) ++ L)) w3 → i < k →
        (∀ w' D' R', OkX (runX (x0 first delay nr) (qs.take 200)) → Hs W (boxL bb D' (runX (x0 first delay nr) (qs.take 200)) ++ (refL rr R' (runX (x0 first delay nr) (qs.take 200)) ++ L)) w' → K0 (.pointer (some ⟨bb, 0, none⟩)) (.pointer (some ⟨rr, 0, none⟩)) w') →
        F8_2 K0 Kr k (.slice sa qs.length sc) (.pointer (some ⟨bb, 0, none⟩)) (.pointer (some ⟨rr, 0, none⟩)) (.int .i64 (j : Int)) w3 := by
      intro i
      induction i with
      | zero =>
        intro j D R w3 k K0 Kr hj ho hw hk hK
        obtain ⟨k, rfl⟩ : ∃ j, k = j + 1 := ⟨k - 1, by omega⟩
        show F8_2B _ _ _ _ _ _ _ _
        unfold F8_2B
        simp only [rdP_mk, rdC_mk, rdI_mk, Option.isNone_some, Bool.not_false, br_true]
        have e : qs.take j = qs.take 200 := by rw [List.take_eq_take_iff]; omega
        rw [e] at ho hw
        have fin := hK w3 D R ho hw
        rw [br_dec]
        refine ⟨fun h1 => ?_, fun _ => fin⟩
        rw [br_dec]
        exact ⟨fun h2 => by exfalso; omega, fun _ => fin⟩
      | succ i ih =>
        intro j D R w3 k K0 Kr hj ho hw hk hK
        obtain ⟨k, rfl⟩ : ∃ j, k = j + 1 := ⟨k - 1, by omega⟩
        show F8_2B _ _ _ _ _ _ _ _
        unfold F8_2B
        simp only [rdP_mk, rdC_mk, rdI_mk, Option.isNone_some, Bool.not_false, br_true]
        rw [br_dec]
        refine ⟨fun _ => ?_, fun h => by exfalso; omega⟩
        rw [br_dec]
        refine ⟨fun _ => ?_, fun h => by exfalso; omega⟩
        unfold F8_1
        simp only [rdP_mk, rdC_mk, rdI_mk]
        obtain ⟨q, hqj⟩ : ∃ q, qs[j]? = some q := ⟨qs[j]'(by omega), by simp⟩
        have e1 : IntKind.wrap .i64 ((j : Int) + 1) = ((j + 1 : Nat) : Int) := by rw [wrap_i64 (by omega) (by omega)]; omega
        refine step_op (sc := sc) ht hr hq hqj hw ho fun w4 D4 R4 h4 o4 => ?_
        rw [Bool.not_true, br_false]
        intro _g
        rw [e1]
        rw [← runX_take hqj] at h4 o4
        exact ih (j + 1) D4 R4 w4 k K0 Kr (by omega) o4 h4 (by omega) hK
    refine ⟨min 200 qs.length + 1, loop (min 200 qs.length) 0 D R w2 _ _ _ (by omega) (x0_ok hN) h3 (by omega) fun w' D' R' o' h' _g => ?_⟩
    simp only [rdP_mk]
    intro _g
    exact ⟨true, rfl, .inr ⟨hN, bb, D', rr, R', rfl, h', o'⟩⟩
theorem c6 {sa : Option Addr} {sc : Nat} {qs : List OpB} (ht : TB w) (hr : Rd w sa (qs.flatMap opB)) (hq : ∀ q ∈ qs, OpOk w q) (first delay : Int) (nr : Bool) :
    Calls Tryd.prog 6 #[.int .u32 first, .int .i64 delay, .bool nr, .slice sa qs.length sc] w (rt fun v w' => v = .bool true ∧ Same w w') := by
  refine F6_ok ?_
  unfold F6
  simp only [rdI_mk, rdB_mk, rdC_mk]
  refine cl (c28 (Hs.start w) first delay nr) ?_
  have eI : ∀ x : Int, (x != x) = false := fun x => by simp
  rintro _ w1 (⟨hN, rfl, rfl⟩ | ⟨hN, bb, D, rfl, h1⟩)
  · refine ⟨_, _, rfl, cl (c29 (Hs.start w1) first delay nr) ?_⟩
    rintro _ w2 (⟨_, rfl, rfl⟩ | ⟨hN', _⟩)
    · refine ⟨_, _, rfl, ?_⟩
      rw [eI, br_false]
      simp only [Option.isNone_none]
      rw [show (!(true == true)) = false from rfl, br_false]
      unfold F6_3
      simp only [rdP_mk, rdC_mk, Option.isNone_none, br_true]
      refine cl (c19 ht) ?_
      rintro _ w3 ⟨rfl, s3⟩
      refine ⟨_, rfl, fun _g => ?_⟩
      exact ⟨true, rfl, rfl, s3⟩
    · exact absurd hN' hN
  · refine ⟨_, _, rfl, cl (c29 h1 first delay nr) ?_⟩
    rintro _ w2 (⟨hN', _⟩ | ⟨_, rr, R, rfl, h2⟩)
    · exact absurd hN hN'
    refine ⟨_, _, rfl, ?_⟩
    rw [eI, br_false]
    simp only [Option.isNone_some]
    rw [show (!(false == false)) = false from rfl, br_false]
    have h3 : Hs w (boxL bb D (x0 first delay nr) ++ (refL rr R (x0 first delay nr) ++ [])) w2 := Hs.flip.1 h2
    unfold F6_3
    simp only [rdP_mk, rdC_mk, Option.isNone_some, br_false]
    have loop : ∀ (i j : Nat) (D : BD) (R : RD) (w3 : World) (k : Nat) (K0 : Value → Value → World → Prop) (Kr : Value → World → Prop), j + i = min 200 qs.length → OkX (runX (x0 first delay nr) (qs.take j)) → Hs w (boxL bb D (runX (x0 first delay nr) (qs.take j)) ++ (refL rr R (runX (x0 first delay nr) (qs.take j)) ++ [])) w3 → i < k →
        (∀ w' D' R' x, OkX x → Hs w (boxL bb D' x ++ (refL rr R' x ++ [])) w' → K0 (.pointer (some ⟨bb, 0, none⟩)) (.pointer (some ⟨rr, 0, none⟩)) w') →
        F6_2 K0 Kr k (.slice sa qs.length sc) (.pointer (some ⟨bb, 0, none⟩)) (.pointer (some ⟨rr, 0, none⟩)) (.int .i64 (j : Int)) w3 := by
      intro i
      induction i with
      | zero =>
        intro j D R w3 k K0 Kr hj ho hw hk hK
        obtain ⟨k, rfl⟩ : ∃ j, k = j + 1 := ⟨k - 1, by omega⟩
        show F6_2B _ _ _ _ _ _ _ _
        unfold F6_2B
        simp only [rdP_mk, rdC_mk, rdI_mk]
        have fin := hK w3 D R _ ho hw
        rw [br_dec]
        refine ⟨fun h1 => ?_, fun _ => fin⟩
        rw [br_dec]
        exact ⟨fun h2 => by exfalso; omega, fun _ => fin⟩
      | succ i ih =>
        intro j D R w3 k K0 Kr hj ho hw hk hK
        obtain ⟨k, rfl⟩ : ∃ j, k = j + 1 := ⟨k - 1, by omega⟩
        show F6_2B _ _ _ _ _ _ _ _
        unfold F6_2B
        simp only [rdP_mk, rdC_mk, rdI_mk]
        rw [br_dec]
        refine ⟨fun _ => ?_, fun h => by exfalso; omega⟩
        rw [br_dec]
        refine ⟨fun _ => ?_, fun h => by exfalso; omega⟩
        unfold F6_1
        simp only [rdP_mk, rdC_mk, rdI_mk]
        obtain ⟨q, hqj⟩ : ∃ q, qs[j]? = some q := ⟨qs[j]'(by omega), by simp⟩
        have e1 : IntKind.wrap .i64 ((j : Int) + 1) = ((j + 1 : Nat) : Int) := by rw [wrap_i64 (by omega) (by omega)]; omega
        refine step_op (sc := sc) ht hr hq hqj hw ho fun w4 D4 R4 h4 o4 => ?_
        rw [Bool.not_true, br_false]
        refine cl (c30 ht h4 o4) ?_
        rintro _ w5 ⟨rfl, s5⟩
        refine ⟨_, rfl, ?_⟩
        rw [Bool.not_true, br_false]
        intro _g
        rw [e1]
        have h5 := h4.same s5
        rw [← runX_take hqj] at h5 o4
        exact ih (j + 1) D4 R4 w5 k K0 Kr (by omega) o4 h5 (by omega) hK
    refine ⟨min 200 qs.length + 1, loop (min 200 qs.length) 0 D R w2 _ _ _ (by omega) (x0_ok hN) h3 (by omega) fun w' D' R' x o' h' _g => ?_⟩
    simp only [rdP_mk]
    refine cl (c30 ht h' o') ?_
    rintro _ w5 ⟨rfl, s5⟩
    refine ⟨_, rfl, ?_⟩
    rw [br_true]
    have h6 := h'.same s5
    refine cl (c19 (Hs.tb h6 ht)) ?_
    rintro _ w7 ⟨rfl, s7⟩
    refine ⟨_, rfl, fun _g => ?_⟩
    exact ⟨true, rfl, rfl, (h6.same s7).1⟩
end
end Go.Proofs.YtccffjlahpfdaaaDoor
