/-
  Is all that is told of two boxes alike?
-/
import Derived.Test.YtmliokbonkndaaaRqQ
import Derived.Test.YtmliokbonkndaaaRqA
namespace Go.Proofs.Ytmliokbonkndaaa
open Go Go.Sh
theorem find_fsts {q : En → Bool} : ∀ (ds : List Dt), (ds.find? fun d => q d.1).map (·.1) = (fsts ds).find? q
  | [] => rfl
  | d :: ds => by
    rw [show fsts (d :: ds) = d.1 :: fsts ds from rfl, List.find?_cons, List.find?_cons]
    cases q d.1 with
    | true => rfl
    | false => exact find_fsts ds
/-- two answers that are alike -/
theorem one_same {w1 : World} {B : Nat} {q : En → Bool} {l : List En} {ds : List Dt} {s s' : R57} {b b' : Bool} (hl : fsts ds = l) (hdat : ∀ d ∈ ds, Rd w1 d.2.1 (byV d.1.data)) (hb : ∀ e ∈ l, byOk e)
    (h1 : oneS B w1 (l.find? q) s b) (h2 : oneD (ds.find? fun d => q d.1) s' b') :
    ∃ e a1 k1 a2 k2, s = En.r e a1 k1 ∧ s' = En.r e a2 k2 ∧ b = b' ∧ Rd w1 a1 (byV e.data) ∧ Rd w1 a2 (byV e.data) ∧ byOk e := by
  have hf := find_fsts (q := q) ds
  rw [hl] at hf
  cases hd : ds.find? fun d => q d.1 with
  | none =>
    rw [hd] at hf h2
    rw [← hf] at h1
    obtain ⟨rfl, rfl⟩ := h1
    obtain ⟨rfl, rfl⟩ := h2
    exact ⟨En.z, none, 0, none, 0, rfl, rfl, rfl, Rd.nil _ _, Rd.nil _ _, z_ok⟩
  | some d =>
    rw [hd] at hf h2
    rw [← hf] at h1
    obtain ⟨rfl, a, k, rfl, ho⟩ := h1
    obtain ⟨rfl, rfl⟩ := h2
    have hm := List.mem_of_find?_eq_some hd
    refine ⟨d.1, a, k, d.2.1, d.2.2, rfl, rfl, rfl, ho.rd, hdat d hm, hb _ ?_⟩
    rw [← hl]
    exact List.mem_map.2 ⟨d, hm, rfl⟩
theorem c23_1 {V : World} {bb rb N : Nat} {cum : Int} {es : List (Nat × En)} {a : Option Addr} {c : Nat} {ds : List Dt} {l : List En} (hN8 : 0 < N ∧ N ≤ 8) (ho : OkB N cum l) (h1 : dats es = l) (h2 : fsts ds = l) (hb : RB V bb N cum es) (hq : RQ V rb N cum a c ds) {K0 : World → Prop} {Kr : Value → World → Prop} (hK : ∀ w', Same V w' → K0 w') :
    ∀ (i j : Nat) (w : World) (k : Nat), j + i = N + 2 → Same V w → i < k → F23_1 K0 Kr k (.pointer (some ⟨bb, 0, none⟩)) (.pointer (some ⟨rb, 0, none⟩)) (.int .i64 ((j : Int) - 1)) w := by
  have hes : es.length = l.length := by rw [← h1]; simp [dats]
  have hds : ds.length = l.length := by rw [← h2]; simp [fsts]
  have hl := ho.len
  have hd1 : ∀ e ∈ dats es, e.data.length ≤ 70000 := by rw [h1]; exact ho.size
  have hd2 : ∀ e ∈ fsts ds, e.data.length ≤ 70000 := by rw [h2]; exact ho.size
  intro i
  induction i with
  | zero =>
    intro j w k hj hs hk
    obtain ⟨k, rfl⟩ : ∃ j, k = j + 1 := ⟨k - 1, by omega⟩
    show F23_1B _ _ _ _ _ _ _
    unfold F23_1B
    simp only [rdP_mk, rdI_mk, nn_some, add_mk]
    refine ldI_at (hq.same hs).blk rfl ?_
    rw [br_dec]
    exact ⟨fun h => by exfalso; have h : (j : Int) - 1 ≤ (N : Int) := h; omega, fun _ => hK w hs⟩
  | succ i ih =>
    intro j w k hj hs hk
    obtain ⟨k, rfl⟩ : ∃ j, k = j + 1 := ⟨k - 1, by omega⟩
    show F23_1B _ _ _ _ _ _ _
    unfold F23_1B
    simp only [rdP_mk, rdI_mk, nn_some, add_mk]
    refine ldI_at (hq.same hs).blk rfl ?_
    rw [br_dec]
    refine ⟨fun _ => ?_, fun h => by exfalso; have h : ¬ (j : Int) - 1 ≤ (N : Int) := h; omega⟩
    have tr : ∀ {w1 w2 : World}, Same V w1 → Same w1 w2 → Same V w2 := fun a b => a.trans b fun _ _ x => x
    refine cl (c16 (hb.same hs) (by omega) (by omega) hd1 _) ?_
    rintro _ w1 ⟨s8, b9, rfl, o1, s1⟩
    refine exR57_of s8 ⟨b9, rfl, ?_⟩
    refine (Hs.start w1).alc fun b10 w2 g2 => g2.stcL 0 rfl rfl fun w3 g3 => ?_
    have t3 := tr (tr hs s1) g3.old
    refine cl (c50 (hq.same t3) (by omega) _) ?_
    rintro _ w4 ⟨s15, b16, rfl, o2, s4⟩
    refine exR57_of s15 ⟨b16, rfl, ?_⟩
    have g4 := g3.same s4
    refine g4.alc fun b17 w5 g5 => g5.stcL 0 rfl rfl fun w6 g6 => ?_
    have t6 := tr (tr hs s1) g6.old
    refine ldR57_of (s := s8) (g6.atL 1 rfl) (ldR57_of (s := s15) (g6.atL 0 rfl) ?_)
    rw [h1] at o1
    have o1' := o1.same g6.old (Nat.le_refl _)
    obtain ⟨e, a1, k1, a2, k2, rfl, rfl, rfl, r1, r2, rb'⟩ := one_same h2 (hq.same t6).dat ho.byt o1' o2
    refine cl (c43 r1 r2 rb') ?_
    rintro _ w7 ⟨rfl, s7⟩
    refine ⟨_, rfl, ?_⟩
    have t7 := tr t6 s7
    rw [Bool.not_true, br_false, show (!(b9 == b9)) = false by simp, br_false]
    refine cl (c27 (hb.same t7) (by omega) (by omega) hd1 _) ?_
    rintro _ w8 ⟨s8', rfl⟩
    refine ⟨_, rfl, ?_⟩
    have t8 := tr t7 s8'
    refine cl (c51 (hq.same t8) (by omega) hd2 _) ?_
    rintro _ w9 ⟨rfl, s9⟩
    refine ⟨_, rfl, ?_⟩
    rw [h1, h2, show ∀ q : Int, (q != q) = false from fun q => by simp, br_false]
    have e1 : IntKind.wrap .i64 ((j : Int) - 1 + 1) = ((j + 1 : Nat) : Int) - 1 := by rw [wrap_i64 (by omega) (by omega)]; omega
    rw [e1]
    exact ih (j + 1) w9 k (by omega) (tr t8 s9) (by omega)
theorem c23 {V : World} {bb rb N : Nat} {cum : Int} {es : List (Nat × En)} {a : Option Addr} {c : Nat} {ds : List Dt} {l : List En} (hN8 : 0 < N ∧ N ≤ 8) (ho : OkB N cum l) (h1 : dats es = l) (h2 : fsts ds = l) (hb : RB V bb N cum es) (hq : RQ V rb N cum a c ds) :
    Calls Try.prog 23 #[.pointer (some ⟨bb, 0, none⟩), .pointer (some ⟨rb, 0, none⟩)] V (rt fun v w' => v = .bool true ∧ Same V w') := by
  have hes : es.length = l.length := by rw [← h1]; simp [dats]
  have hds : ds.length = l.length := by rw [← h2]; simp [fsts]
  have hl := ho.len
  have hd1 : ∀ e ∈ dats es, e.data.length ≤ 70000 := by rw [h1]; exact ho.size
  have hd2 : ∀ e ∈ fsts ds, e.data.length ≤ 70000 := by rw [h2]; exact ho.size
  have tr : ∀ {w1 w2 : World}, Same V w1 → Same w1 w2 → Same V w2 := fun a b => a.trans b fun _ _ x => x
  have ne : ∀ q : Int, (q != q) = false := fun q => by simp
  refine F23_ok ?_
  unfold F23
  simp only [rdP_mk]
  refine cl (c26 hb (by omega) (by omega) hd1) ?_
  rintro _ w1 ⟨s6, b7, rfl, o1, s1⟩
  refine ⟨_, exR57_of s6 ⟨b7, rfl, ?_⟩⟩
  refine (Hs.start w1).alc fun b8 w2 g2 => g2.stcL 0 rfl rfl fun w3 g3 => ?_
  have t3 := tr s1 g3.old
  refine cl (c47 (hq.same t3) (by omega) hd2) ?_
  rintro _ w4 ⟨s14, b15, rfl, o2, s4⟩
  refine ⟨_, exR57_of s14 ⟨b15, rfl, ?_⟩⟩
  have g4 := g3.same s4
  refine g4.alc fun b16 w5 g5 => g5.stcL 0 rfl rfl fun w6 g6 => g6.drw fun w7 g7 => ?_
  have t7 := tr s1 g7.old
  refine ⟨w7, Pres.of_Same (Fr.refl _), ?_⟩
  rw [h1, h2, ne, br_false]
  refine ldR57_of (s := s6) (g7.atL 1 rfl) (ldR57_of (s := s14) (g7.atL 0 rfl) ?_)
  rw [h1] at o1
  have o1' := o1.same g7.old (Nat.le_refl _)
  obtain ⟨e, a1, k1, a2, k2, rfl, rfl, rfl, r1, r2, rb'⟩ := one_same h2 (hq.same t7).dat ho.byt o1' o2
  refine cl (c43 r1 r2 rb') ?_
  rintro _ w8 ⟨rfl, s8⟩
  refine ⟨_, rfl, Pres.of_Same s8, ?_⟩
  have t8 := tr t7 s8
  rw [Bool.not_true, br_false, show (!(b7 == b7)) = false by simp, br_false]
  simp only [nn_some, add_mk]
  refine ldI_at (hq.same t7).blk rfl ?_
  refine clr (c12 (hb.same t8) (by omega)) ⟨_, rfl, Pres.of_Same s8, ?_⟩
  show br (cum != cum) _ _
  rw [ne, br_false]
  refine cl (c19 (hb.same t8) (by omega)) ?_
  rintro _ w9 ⟨rfl, s9⟩
  have t9 := tr t8 s9
  have u9 : Same w7 w9 := s8.trans s9 fun _ _ x => x
  refine ⟨_, rfl, Pres.of_Same u9, ?_⟩
  refine cl (c48 (hq.same t9) (by omega) ho.cum) ?_
  rintro _ w10 ⟨rfl, s10⟩
  have t10 := tr t9 s10
  have u10 : Same w7 w10 := u9.trans s10 fun _ _ x => x
  refine ⟨_, rfl, Pres.of_Same u10, ?_⟩
  rw [hes, hds, ne, br_false]
  refine (hq.same t7).len ?_
  refine clr (c18 (hb.same t10) (by omega)) ⟨_, rfl, Pres.of_Same u10, ?_⟩
  rw [hes, hds, ne, br_false]
  refine cl (c28 (hb.same t10) (by omega) (by omega) hd1) ?_
  rintro _ w11 ⟨s11, rfl⟩
  have t11 := tr t10 s11
  have u11 : Same w7 w11 := u10.trans s11 fun _ _ x => x
  refine ⟨_, rfl, Pres.of_Same u11, ?_⟩
  refine cl (c49 (hq.same t11) rfl hN8.2 (by omega) hd2) ?_
  rintro _ w12 ⟨rfl, s12⟩
  have t12 := tr t11 s12
  have u12 : Same w7 w12 := u11.trans s12 fun _ _ x => x
  refine ⟨_, rfl, Pres.of_Same u12, ?_⟩
  rw [h1, h2, tot_eq ho.path, ne, br_false]
  refine (hq.same t7).len ?_
  refine cl (c15 (hb.same t12) (by omega) (by omega) hd1) ?_
  rintro _ w13 ⟨oa, oc, d1, rfl, hd3, hout⟩
  have t13 := tr t12 hout.old
  refine ⟨_, _, _, rfl, Pres.of_Same (u12.trans hout.old fun _ _ x => x), ?_⟩
  have hlen : (dats es).length = d1.length := by rw [← hd3, List.length_map]
  rw [hlen]
  have hout' : Hs w12 (outL oa oc d1 ++ []) w13 := by rw [List.append_nil]; exact hout
  refine cl (c22 (hout'.rd 0 rfl) (out_dat hout') (hq.same t13).row (hq.same t13).dat (by rw [h2, ← h1]; exact hd3) (by rw [h2]; exact ho.byt) (by omega)) ?_
  rintro _ w14 ⟨rfl, s14⟩
  refine ⟨_, rfl, ?_⟩
  rw [Bool.not_true, br_false]
  unfold F23_2
  simp only [rdP_mk]
  refine ⟨N + 3, c23_1 hN8 ho h1 h2 hb hq (fun w' s' _g => ?_) (N + 2) 0 w14 _ (by omega) (tr t13 s14) (by omega)⟩
  simp only [rdB_mk]
  exact fun _ => ⟨trivial, s'⟩
end Go.Proofs.Ytmliokbonkndaaa
namespace Go.Proofs.Ytmliokbonkndaaa
open Go Go.Sh
def opV (o : Opx) : List Value := o.R.l
theorem opV_len (o : Opx) : (opV o).length = 26 := rfl
def runX (N : Nat) (x : St) (os : List Opx) : St := os.foldl (fun x o => (actX N o x).1) x
theorem runX_take {N : Nat} {x : St} {os : List Opx} {j : Nat} {o : Opx} (h : os[j]? = some o) : runX N x (os.take (j + 1)) = (actX N o (runX N x (os.take j))).1 := by
  unfold runX; rw [List.take_add_one, h]; simp
section
variable {W w : World} {L M : List HP} {bb rb N : Nat} {x : St} {o : Opx} {os : List Opx} {sa : Option Addr} {sc : Nat}
theorem run_ok (h : OkB N x.1 x.2) (hok : ∀ o ∈ os, OpxOk W o) (j : Nat) : OkB N (runX N x (os.take j)).1 (runX N x (os.take j)).2 := by
  induction j with
  | zero => exact h
  | succ j ih =>
    cases ho : os[j]? with
    | none =>
      have : os.take (j + 1) = os.take j := by rw [List.take_add_one, ho]; simp
      rw [this]; exact ih
    | some o =>
      rw [runX_take ho]
      exact act_ok ih (hok o (List.mem_of_getElem? ho))
theorem same_BY (hN8 : 0 < N ∧ N ≤ 8) (ho : OkB N x.1 x.2) (h : BY W [] L bb rb N x w) : Calls Try.prog 23 #[.pointer (some ⟨bb, 0, none⟩), .pointer (some ⟨rb, 0, none⟩)] w (rt fun v w' => v = .bool true ∧ BY W [] L bb rb N x w') := by
  obtain ⟨a, c, es, a', c', ds, h1, h2, h⟩ := h
  have h : Hs W (boxL bb N x.1 a c es ++ (refL rb N x.1 a' c' ds ++ L)) w := h
  refine rt_mono (c23 hN8 ho h1 h2 (box_rb h) (ref_rqX h)) ?_
  rintro v w' ⟨hv, s⟩
  exact ⟨hv, a, c, es, a', c', ds, h1, h2, h.same s⟩
theorem step_act {K : R47 → Bool → World → Prop} {j : Nat} (hr : Rd W sa (os.flatMap opV)) (hok : ∀ o ∈ os, OpxOk W o) (hN8 : 0 < N ∧ N ≤ 8) (ho : OkB N x.1 x.2) (hj : os[j]? = some o) (h : BY W [] L bb rb N x w)
    (hK : ∀ s w', s.f1 = (actX N o x).2 → BY W [] L bb rb N (actX N o x).1 w' → K s true w') :
    ixS 26 sa os.length (j : Int) fun a5 => ldR70 a5 w fun s6 => Calls Try.prog 20 #[.pointer (some ⟨bb, 0, none⟩), .pointer (some ⟨rb, 0, none⟩), s6.v] w fun e8 w7 => exR47 fun s9 => ∃ b10, e8 = .returned (.tuple #[s9.v, .bool b10]) ∧ K s9 b10 w7 := by
  have hlt := (List.getElem?_eq_some_iff.1 hj).1
  have hold : Same W w := by
    obtain ⟨_, _, _, _, _, _, _, _, h⟩ := h
    exact h.old
  have m1 : Rd w sa (os.flatMap opV) := hr.fr hold fun _ _ x => x
  obtain ⟨ad, had⟩ := m1.some (by rw [flat_length (m := 26) opV_len]; omega)
  rw [had] at m1 ⊢
  refine ixS_to (p := j) rfl hlt (ldR70_of (s := o.R) (m1.atI opV_len hj) ?_)
  refine cl (c20 hN8 ho (hok o (List.mem_of_getElem? hj)) h) ?_
  rintro _ w1 ⟨s, rfl, hs, h1⟩
  exact exR47_of s ⟨true, rfl, hK s w1 hs h1⟩
theorem BY.old (h : BY W [] L bb rb N x w) : Same W w := by
  obtain ⟨_, _, _, _, _, _, _, _, h⟩ := h
  exact h.old
theorem c7_2 {K0 : Value → Value → World → Prop} {Kr : Value → World → Prop} (hr : Rd W sa (os.flatMap opV)) (hok : ∀ o ∈ os, OpxOk W o) (hN8 : 0 < N ∧ N ≤ 8) (ho : OkB N x.1 x.2)
    (hK : ∀ w' k, BY W [] L bb rb N (runX N x (os.take k)) w' → OkB N (runX N x (os.take k)).1 (runX N x (os.take k)).2 → K0 (.pointer (some ⟨bb, 0, none⟩)) (.pointer (some ⟨rb, 0, none⟩)) w') :
    ∀ (i j : Nat) (w : World) (k : Nat), j + i = 120 → BY W [] L bb rb N (runX N x (os.take j)) w → i < k → F7_2 K0 Kr k (.slice sa os.length sc) (.pointer (some ⟨bb, 0, none⟩)) (.pointer (some ⟨rb, 0, none⟩)) (.int .i64 (j : Int)) w := by
  intro i
  induction i with
  | zero =>
    intro j w k hj h hk
    obtain ⟨k, rfl⟩ : ∃ j, k = j + 1 := ⟨k - 1, by omega⟩
    show F7_2B _ _ _ _ _ _ _ _
    unfold F7_2B
    simp only [rdP_mk, rdI_mk, rdC_mk, br_dec]
    have hend := hK w j h (run_ok ho hok j)
    exact ⟨fun _ => ⟨fun h => by exfalso; omega, fun _ => hend⟩, fun _ => hend⟩
  | succ i ih =>
    intro j w k hj h hk
    obtain ⟨k, rfl⟩ : ∃ j, k = j + 1 := ⟨k - 1, by omega⟩
    show F7_2B _ _ _ _ _ _ _ _
    unfold F7_2B
    simp only [rdP_mk, rdI_mk, rdC_mk, br_dec]
    have hend := hK w j h (run_ok ho hok j)
    refine ⟨fun hl => ⟨fun _ => ?_, fun _ => hend⟩, fun _ => hend⟩
    unfold F7_1
    simp only [rdP_mk, rdI_mk, rdC_mk]
    obtain ⟨o, hjo⟩ : ∃ o, os[j]? = some o := ⟨os[j]'(by omega), by simp⟩
    refine step_act hr hok hN8 (run_ok ho hok j) hjo h fun s w1 _ h1 => ?_
    rw [← runX_take hjo] at h1
    obtain ⟨a, c, es, a', c', ds, q1, q2, h2⟩ := h1
    refine h2.alc fun b11 w2 h3 => h3.stcL 0 rfl rfl fun w3 h4 => ?_
    have h5 : BY W [] L bb rb N (runX N x (os.take (j + 1))) w3 := ⟨a, c, es, a', c', ds, q1, q2, h4.drop⟩
    rw [Bool.not_true, br_false]
    refine cl (same_BY hN8 (run_ok ho hok (j + 1)) h5) ?_
    rintro _ w4 ⟨rfl, h6⟩
    refine ⟨_, rfl, ?_⟩
    rw [Bool.not_true, br_false]
    have e1 : IntKind.wrap .i64 ((j : Int) + 1) = ((j + 1 : Nat) : Int) := by rw [wrap_i64 (by omega) (by omega)]; omega
    rw [e1]
    exact fun _ => ih (j + 1) w4 k (by omega) h6 (by omega)
theorem c7 (hr : Rd W sa (os.flatMap opV)) (hok : ∀ o ∈ os, OpxOk W o) (first paths : Int) :
    Calls Try.prog 7 #[.int .u32 first, .int .i64 paths, .slice sa os.length sc] W (rt fun v w' => v = .bool true ∧ Same W w') := by
  refine F7_ok ?_
  unfold F7
  simp only [rdI_mk, rdC_mk]
  have ne : ∀ q : Int, (q != q) = false := fun q => by simp
  refine cl (c9 (Hs.start W) first paths) ?_
  rintro _ w1 (⟨hn, rfl, rfl⟩ | ⟨hn, bb, rfl, h1⟩)
  · refine ⟨_, _, rfl, cl (c17 (Hs.start w1) first paths) ?_⟩
    rintro _ w2 (⟨_, rfl, rfl⟩ | ⟨hn', _⟩)
    · refine ⟨_, _, rfl, ?_⟩
      rw [ne, br_false]
      simp only [Option.isNone_none]
      rw [show (!(true == true)) = false from rfl, br_false]
      unfold F7_3
      simp only [rdP_mk, rdC_mk, Option.isNone_none, br_true]
      refine cl (c14 w2) ?_
      rintro _ w3 ⟨rfl, s3⟩
      simp only [rdB_mk]
      exact ⟨_, rfl, fun _ => ⟨rfl, s3⟩⟩
    · exact absurd hn' hn
  · refine ⟨_, _, rfl, cl (c17 h1 first paths) ?_⟩
    rintro _ w2 (⟨hn', _⟩ | ⟨_, rb, rfl, h2⟩)
    · exact absurd hn hn'
    · refine ⟨_, _, rfl, ?_⟩
      rw [ne, br_false]
      simp only [Option.isNone_some]
      rw [show (!(false == false)) = false from rfl, br_false]
      unfold F7_3
      simp only [rdP_mk, rdC_mk, Option.isNone_some, br_false]
      obtain ⟨N, hN⟩ : ∃ N : Nat, paths = (N : Int) := ⟨paths.toNat, by omega⟩
      subst hN
      have hN8 : 0 < N ∧ N ≤ 8 := by omega
      have hc : 0 ≤ newC first ∧ newC first < 4294967296 := by unfold newC; omega
      have h3 : BY W [] [] bb rb N (newC first, []) w2 := ⟨none, 0, [], none, 0, [], rfl, rfl, (show Hs W (boxL bb N (newC first) none 0 [] ++ (refL rb N (newC first) none 0 [] ++ [])) w2 from Hs.flip.1 h2)⟩
      have ho : OkB N (newC first) [] := OkB.new N hc
      refine ⟨121, c7_2 (x := (newC first, [])) hr hok hN8 ho (fun w3 k h4 ho4 => ?_) 120 0 w2 _ rfl h3 (by omega)⟩
      intro _g
      simp only [rdP_mk]
      refine cl (same_BY hN8 ho4 h4) ?_
      rintro _ w4 ⟨rfl, h5⟩
      refine ⟨_, rfl, ?_⟩
      rw [br_true]
      refine cl (c14 w4) ?_
      rintro _ w5 ⟨rfl, s5⟩
      simp only [rdB_mk]
      exact ⟨_, rfl, fun _ => ⟨rfl, h5.old.trans s5 fun _ _ x => x⟩⟩
end
end Go.Proofs.Ytmliokbonkndaaa
namespace Go.Proofs.Ytmliokbonkndaaa
open Go Go.Sh
open Go.ChangeShapes Go.WideShapes Go.ChangeAt Go.WideMaps Go.WideElems Go.RowKit
set_option maxRecDepth 100000
namespace Row
theorem u63 : Try.prog.underlying 63 = some (.slice 71) := by kernel_rfl
theorem z71 : Try.prog.cellsOf 71 = 26 := by kernel_rfl
theorem z41 : Try.prog.cellsOf 41 = 7 := by kernel_rfl
theorem z39 : Try.prog.cellsOf 39 = 5 := by kernel_rfl
theorem z3 : Try.prog.cellsOf 3 = 1 := by kernel_rfl
theorem s71 : structIs Try.prog 71 [(3, 0), (3, 1), (3, 2), (41, 3), (22, 10), (31, 11)] = true := by kernel_rfl
theorem s41 : structIs Try.prog 41 [(39, 0), (4, 5), (4, 6)] = true := by kernel_rfl
theorem s39 : structIs Try.prog 39 [(26, 0), (26, 1), (22, 2), (4, 3), (23, 4)] = true := by kernel_rfl
end Row
open Row
section
variable {H : Type} {enc : TypeId × Value → H} {w : World}
theorem part_open {n : Nat} {cs : List Value} {x : DataW H × List MemPlace} (hl : cs.length = 7) (h : DataW.trod enc Try.prog w 0 (fun _ => true) true n 41 cs = some x) :
    ∃ e a c, cs = (En.pt e a c).l ∧ Rd w a (byV e.data) ∧ (a = none → c = 0) ∧ byOk e := by
  obtain ⟨m, parts, _, hf⟩ := fld_of3 s41 h
  match cs, hl with
  | [c0, c1, c2, c3, c4, c5, c6], _ =>
    obtain ⟨y0, h0, _⟩ := hf 0 39 0 rfl
    obtain ⟨y1, h1, _⟩ := hf 1 4 5 rfl
    obtain ⟨y2, h2, _⟩ := hf 2 4 6 rfl
    rw [z39] at h0
    rw [z4] at h1 h2
    obtain ⟨m2, parts2, _, hf2⟩ := fld_of3 s39 h0
    obtain ⟨v0, g0, _⟩ := hf2 0 26 0 rfl
    obtain ⟨v1, g1, _⟩ := hf2 1 26 1 rfl
    obtain ⟨v2, g2, _⟩ := hf2 2 22 2 rfl
    obtain ⟨v3, g3, _⟩ := hf2 3 4 3 rfl
    obtain ⟨v4, g4, _⟩ := hf2 4 23 4 rfl
    rw [z26] at g0 g1
    rw [z22] at g2
    rw [z4] at g3
    rw [z23] at g4
    obtain ⟨k0, e0, _, _⟩ := DataW.trod_int u26 g0
    obtain ⟨k1, e1, _, _⟩ := DataW.trod_int u26 g1
    obtain ⟨k2, e2, _, _⟩ := DataW.trod_int u22 g2
    obtain ⟨k3, e3, _⟩ := DataW.trod_bool u4 g3
    obtain ⟨a, X, c, e4, _, _, hn, hr, hX, _⟩ := ints_open u23 u5 z5 g4
    obtain ⟨k5, e5, _⟩ := DataW.trod_bool u4 h1
    obtain ⟨k6, e6, _⟩ := DataW.trod_bool u4 h2
    simp at e0 e1 e2 e3 e4 e5 e6
    subst e0; subst e1; subst e2; subst e3; subst e4; subst e5; subst e6
    exact ⟨⟨0, 0, 0, 0, 0, false, 0, k0, k1, k2, k3, X, k5, k6⟩, a, c, rfl, hr, hn, fun x hx => wf_u8 (hX x hx)⟩
theorem op_open {n : Nat} {cs : List Value} {x : DataW H × List MemPlace} (hl : cs.length = 26) (h : DataW.trod enc Try.prog w 0 (fun _ => true) true n 71 cs = some x) (hw : light Try.prog 71 x.1) :
    ∃ o, cs = opV o ∧ OpxOk w o := by
  obtain ⟨m, parts, _, hf⟩ := fld_of3 s71 h
  obtain ⟨y0, h0, _⟩ := hf 0 3 0 rfl
  obtain ⟨y1, h1, _⟩ := hf 1 3 1 rfl
  obtain ⟨y2, h2, _⟩ := hf 2 3 2 rfl
  obtain ⟨y3, h3, _⟩ := hf 3 41 3 rfl
  obtain ⟨y4, h4, _⟩ := hf 4 22 10 rfl
  obtain ⟨y5, h5, _, l5⟩ := hf 5 31 11 rfl
  rw [z3] at h0 h1 h2
  rw [z41] at h3
  rw [z22] at h4
  rw [z31] at h5
  obtain ⟨k0, e0, _, _⟩ := DataW.trod_int u3 h0
  obtain ⟨k1, e1, _, _⟩ := DataW.trod_int u3 h1
  obtain ⟨k2, e2, _, _⟩ := DataW.trod_int u3 h2
  obtain ⟨e, a, c, e3, hr, hn, hb⟩ := part_open (by rw [List.length_take, List.length_drop, hl]; rfl) h3
  obtain ⟨k4, e4, _, w4⟩ := DataW.trod_int u22 h4
  obtain ⟨s, r, _, e5, hk, _⟩ := chunk_open (by rw [List.length_take, List.length_drop, hl]; rfl) h5 (l5 hw)
  refine ⟨⟨k0, k1, k2, e, a, c, k4, s, r⟩, ?_, hr, hn, hb, hk, wf_u32 w4⟩
  match cs, hl with
  | [c0, c1, c2, c3, c4, c5, c6, c7, c8, c9, c10, c11, c12, c13, c14, c15, c16, c17, c18, c19, c20, c21, c22, c23, c24, c25], _ =>
    simp at e0 e1 e2 e4
    have f3 : [c3, c4, c5, c6, c7, c8, c9] = (e.pt a c).l := e3
    have f5 : [c11, c12, c13, c14, c15, c16, c17, c18, c19, c20, c21, c22, c23, c24, c25] = s.l := e5
    subst e0; subst e1; subst e2; subst e4
    show _ :: _ :: _ :: ([c3, c4, c5, c6, c7, c8, c9] ++ (_ :: [c11, c12, c13, c14, c15, c16, c17, c18, c19, c20, c21, c22, c23, c24, c25])) = _
    rw [f3, f5]
    rfl
theorem ops_in {r : Reach} {b0 : Nat} {v : Value} {d : DataW H} {ps : List MemPlace} (hval : Value.okWide Try.prog w r b0 63 v) (hw : light Try.prog 63 d) (h : DataW.Trod enc Try.prog w 0 (fun _ => true) true 63 v d ps) :
    ∃ a c, ∃ os : List Opx, v = .slice a os.length c ∧ Rd w a (os.flatMap opV) ∧ ∀ o ∈ os, OpxOk w o := by
  obtain ⟨a0, l0, c0, rfl⟩ := okWide_slice u63 hval
  obtain ⟨fuel, hf⟩ := h
  obtain ⟨a, rows, c, hcs, _, _, _, hr, hQ, _⟩ := recs_open3 (sz := 26) (Q := fun r => ∃ o, r = opV o ∧ OpxOk w o) (by decide) u63 z71 (fun n r y hl hy hlt => op_open hl hy (hlt hw)) hf
  obtain ⟨os, hl, hfl, hok⟩ := recs_of rows fun r hr => (hQ r hr).2
  simp [Value.cells] at hcs
  obtain ⟨rfl, rfl, rfl⟩ := hcs
  rw [hfl] at hr
  exact ⟨_, _, os, by rw [hl], hr, hok⟩
end
end Go.Proofs.Ytmliokbonkndaaa
