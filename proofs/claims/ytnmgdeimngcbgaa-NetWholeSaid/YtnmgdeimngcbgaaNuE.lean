/- Own text: part of the shallow reading of the code and of the contracts that are proved over it. -/
import Derived.Test.YtnmgdeimngcbgaaNuD
namespace Go.Proofs.Ytnmgdeimngcbgaa
open Go Go.Sh
/-! NetRuns -/
structure OpA where
  o : OpD
  a : Option Addr
  c : Nat
def opAV (q : OpA) : List Value := opV q.o q.a q.c
theorem opAV_len (q : OpA) : (opAV q).length = 8 := rfl
def OpOk (W : World) (q : OpA) : Prop := (q.a = none → q.c = 0) ∧ Rd W q.a (byV q.o.bs) ∧ okB q.o.bs
theorem OpOk.src {W : World} {q : OpA} (h : OpOk W q) (L : List HP) : Src W L q.a q.c q.o.bs := ⟨h.1, .inl h.2.1⟩
theorem fine_new (m : Nat) : (NT.new m).fine := by
  intro l hl q hq
  have := List.eq_of_mem_replicate hl
  subst this
  simp [LN.zero] at hq
theorem act_down (n : NT) (o : OpD) : (n.act o).down.length = n.down.length := by
  have hu : ∀ (n : NT) (k : Nat) (f : LN → LN), (n.upd k f).down = n.down := fun n k f => by unfold NT.upd; split <;> rfl
  unfold NT.act NT.okCode NT.enter NT.dlv NT.deliver NT.drp NT.drop NT.twc NT.dup NT.spl NT.trn NT.turn NT.loseAll
  repeat' split
  all_goals simp [hu]
section
variable {W w : World} {b rb : Nat} {n r : NT} {L M : List HP} {sa : Option Addr} {sc : Nat} {ops : List OpA}
theorem op_cells (hr : Rd w sa (ops.flatMap opAV)) {j : Nat} {q : OpA} (hq : ops[j]? = some q) {ad : Addr} (ha : sa = some ad) {k : Nat} {v : Value} (hv : (opAV q)[k]? = some v) : w.cell? (ad.add (j * 8 + k)) = some v := by
  rw [ha] at hr
  exact hr.at (flat_at opAV_len hq hv)
theorem c5_loop (hr : Rd W sa (ops.flatMap opAV)) (ho : ∀ q ∈ ops, OpOk W q) (hl : ops.length ≤ maxLen) {K0 : World → Prop} {Kr : Value → World → Prop} : ∀ (i j : Nat) (n : NT) (w : World) (k : Nat), j + i = ops.length → Hs W (netP b n :: refP rb n :: []) w → n.fine → n.down.length ≤ 8 → i < k →
    (∀ w', Same W w' → K0 w') → F5_2 K0 Kr k (.slice sa ops.length sc) (.pointer (some ⟨b, 0, none⟩)) (.pointer (some ⟨rb, 0, none⟩)) (.int .i64 (j : Int)) w := by
  intro i
  induction i with
  | zero =>
    intro j n w k hj hw hf hd hk hK
    obtain ⟨k, rfl⟩ : ∃ j, k = j + 1 := ⟨k - 1, by omega⟩
    show F5_2B _ _ _ _ _ _ _ _
    unfold F5_2B
    simp only [rdP_mk, rdC_mk, rdI_mk, br_dec]
    exact ⟨fun h => by exfalso; omega, fun _ => hK w hw.1⟩
  | succ i ih =>
    intro j n w k hj hw hf hd hk hK
    obtain ⟨k, rfl⟩ : ∃ j, k = j + 1 := ⟨k - 1, by omega⟩
    show F5_2B _ _ _ _ _ _ _ _
    unfold F5_2B
    simp only [rdP_mk, rdC_mk, rdI_mk, br_dec]
    refine ⟨fun _ => ⟨fun _ => ?_, fun _ => hK w hw.1⟩, fun _ => hK w hw.1⟩
    unfold F5_1
    simp only [rdP_mk, rdC_mk, rdI_mk]
    obtain ⟨q, hq⟩ : ∃ x, ops[j]? = some x := ⟨ops[j]'(by omega), by simp⟩
    have hrw := hw.rd_old hr
    obtain ⟨ad, ha⟩ := hrw.some (by rw [flat_length opAV_len]; omega)
    have g : ∀ {k : Nat} {v : Value}, (opAV q)[k]? = some v → w.cell? (ad.add (j * 8 + k)) = some v := fun hv => op_cells hrw hq ha hv
    have hq0 := ho q (List.mem_of_getElem? hq)
    rw [ha]
    refine ixS_of (by omega) (by omega) ?_
    simp only [Int.toNat_natCast, add_add]
    refine ldI_c (g rfl) (ldI_c (g rfl) (ldI_c (g rfl) (ldI_c (g rfl) (ldI_c (g rfl) (ldI_c (g rfl) (ldI_c (g rfl) (ldC_c (g rfl) ?_)))))))
    refine cl (c10 hw q.o (hq0.src _) hf hf) ?_
    rintro _ w2 ⟨t, rfl, ht, h2⟩
    refine ⟨_, rfl, ?_⟩
    rw [ht rfl, Bool.not_true, br_false]
    refine cl (c15 h2 (by rw [act_down]; exact hd)) ?_
    rintro _ w3 ⟨rfl, h3⟩
    refine ⟨_, rfl, ?_⟩
    rw [Bool.not_true, br_false]
    intro _g
    have e1 : IntKind.wrap .i64 ((j : Int) + 1) = ((j + 1 : Nat) : Int) := by
      have : ops.length < 9223372036854775808 := by unfold maxLen at hl; omega
      rw [wrap_i64 (by omega) (by omega)]; omega
    rw [e1, ← ha]
    exact ih (j + 1) (n.act q.o) w3 k (by omega) h3 (fine_act hf hq0.2.2) (by rw [act_down]; exact hd) (by omega) hK
theorem c5 (m : Int) (hm : -9223372036854775808 ≤ m ∧ m ≤ 9223372036854775807) (hr : Rd W sa (ops.flatMap opAV)) (ho : ∀ q ∈ ops, OpOk W q) (hl : ops.length ≤ maxLen) :
    Calls Try.prog 5 #[.int .i64 m, .slice sa ops.length sc] W (rt fun v w' => v = .bool true ∧ Same W w') := by
  have fin : ∀ w, Same W w → Calls Try.prog 8 #[] w (rt fun v w' => v = .bool true ∧ Same W w') := fun w hs => rt_mono (c8 w) fun v w' ⟨e, h⟩ => ⟨e, hs.trans h fun _ _ x => x⟩
  refine F5_ok ?_
  unfold F5
  simp only [rdC_mk, rdI_mk]
  by_cases hb : 1 ≤ m ∧ m ≤ 8
  · obtain ⟨k, rfl⟩ : ∃ k : Nat, m = k := ⟨m.toNat, by omega⟩
    refine cl (s7 (Hs.start W) k ⟨by omega, by omega⟩) ?_
    rintro _ w1 ⟨b, rfl, h1⟩
    refine ⟨_, _, rfl, ?_⟩
    refine cl (r14 h1 k ⟨by omega, by omega⟩) ?_
    rintro _ w2 ⟨rb, rfl, h2⟩
    refine ⟨_, _, rfl, ?_⟩
    have e00 : ((0 : Int) != 0) = false := rfl
    rw [e00, br_false]
    simp only [Option.isNone_some, beq_self_eq_true, Bool.not_true, br_false]
    unfold F5_3
    simp only [rdP_mk, rdC_mk, Option.isNone_some, br_false]
    refine ⟨ops.length + 1, c5_loop hr ho hl ops.length 0 (NT.new k) w2 _ (by omega) (h2.focus (i := 1) rfl) (fine_new k) (by simp [NT.new]; omega) (by omega) fun w3 s3 _g => ?_⟩
    refine cl (fin w3 s3) ?_
    rintro _ w4 ⟨rfl, s4⟩
    refine ⟨_, rfl, fun _g => ?_⟩
    simp only [rdB_mk]
    exact ⟨trivial, s4⟩
  · refine clr (c7_bad m (by omega) W) ⟨_, _, rfl, clr (r14_bad m (by omega) W) ⟨_, _, rfl, ?_⟩⟩
    have e00 : ((1 : Int) != 1) = false := rfl
    rw [e00, br_false]
    simp only [beq_self_eq_true, Bool.not_true, br_false]
    unfold F5_3
    simp only [rdP_mk, rdC_mk, Option.isNone_none, br_true]
    refine cl (fin W (Fr.refl W)) ?_
    rintro _ w4 ⟨rfl, s4⟩
    refine ⟨_, rfl, fun _g => ?_⟩
    simp only [rdB_mk]
    exact ⟨trivial, s4⟩
/-! NetTells -/
def m64 (x : Int) : Int := x % 18446744073709551616
theorem m64_wrap (x : Int) : m64 (IntKind.wrap .i64 x) = m64 x := by
  unfold m64
  simp only [IntKind.wrap, IntKind.bits, IntKind.signed]
  simp
  omega
/-- all are told of -/
def LN.told (l : LN) : Prop := m64 (l.sent + l.forged) = m64 (l.del + l.lost + l.ps.length)
def NT.told (n : NT) : Prop := ∀ l ∈ n.lanes, l.told
theorem inc_m (x : Int) : ∃ k : Int, inc x = x + 1 + k * 18446744073709551616 := by
  unfold inc
  have := m64_wrap (x + 1)
  unfold m64 at this
  exact ⟨(IntKind.wrap .i64 (x + 1) - (x + 1)) / 18446744073709551616, by omega⟩
theorem wrap_m (x : Int) : ∃ k : Int, IntKind.wrap .i64 x = x + k * 18446744073709551616 := by
  have := m64_wrap x
  unfold m64 at this
  exact ⟨(IntKind.wrap .i64 x - x) / 18446744073709551616, by omega⟩
theorem told_upd {n : NT} {k : Nat} {f : LN → LN} (h : n.told) (hf : ∀ l, n.lanes[k]? = some l → l.told → (f l).told) : (n.upd k f).told := by
  unfold NT.upd
  split
  · rename_i l hl
    intro l' hl'
    rcases List.mem_or_eq_of_mem_set hl' with hl' | rfl
    · exact h l' hl'
    · exact hf l hl (h l (List.mem_of_getElem? hl))
  · exact h
theorem told_act {n : NT} {o : OpD} (h : n.told) : (n.act o).told := by
  have hput : ∀ f, (n.okCode o.e o.p o.now f o.bs).told := fun f => by
    unfold NT.okCode
    split
    · unfold NT.enter
      show NT.told (n.upd _ _)
      refine told_upd h fun l _ hl => ?_
      unfold LN.told m64 at hl ⊢
      obtain ⟨k1, e1⟩ := inc_m l.sent
      obtain ⟨k2, e2⟩ := inc_m l.forged
      obtain ⟨k3, e3⟩ := inc_m l.lost
      cases f <;> cases hu : (!n.isDown o.p) <;> simp [LN.count, LN.put] <;> omega
    · exact h
  have herase : ∀ (l : LN) (i : Int), n.atCode o.e o.p i = 0 → n.lanes[idx o.e o.p]? = some l → (l.ps.eraseIdx i.toNat).length + 1 = l.ps.length := fun l i hc hl => by
    obtain ⟨j, rfl, hj⟩ := at_of hc
    have : n.many o.e o.p = l.ps.length := by unfold NT.many; rw [hl]; rfl
    rw [this] at hj
    rw [List.length_eraseIdx]
    simp [hj]; omega
  have hturn : ∀ b, (n.trn o.p b).told := fun b => by
    unfold NT.trn
    split
    · unfold NT.turn
      split
      · unfold NT.loseAll
        have hlose : ∀ l : LN, l.told → l.lose.told := fun l hl => by
          unfold LN.told m64 LN.lose at *
          obtain ⟨k, e⟩ := wrap_m (l.lost + l.ps.length)
          simp only [e, List.length_nil]
          omega
        have h1 : (({ n with down := n.down.set o.p.toNat true } : NT).upd (idx 0 o.p) LN.lose).told := told_upd h fun l _ hl => hlose l hl
        exact told_upd h1 fun l _ hl => hlose l hl
      · exact h
    · exact h
  unfold NT.act
  split
  · exact hput _
  split
  · exact hput _
  split
  · unfold NT.dlv NT.deliver
    split
    · rename_i hc
      refine told_upd h fun l hl ht => ?_
      have := herase l o.i hc hl
      unfold LN.told m64 at *
      obtain ⟨k, e⟩ := inc_m l.del
      simp only [e]
      omega
    · exact h
  split
  · unfold NT.drp NT.drop
    split
    · rename_i hc
      refine told_upd h fun l hl ht => ?_
      have := herase l o.i hc hl
      unfold LN.told m64 at *
      obtain ⟨k, e⟩ := inc_m l.lost
      simp only [e]
      omega
    · exact h
  split
  · unfold NT.twc NT.dup
    split
    · show NT.told (n.upd _ _)
      refine told_upd h fun l hl ht => ?_
      split
      · unfold LN.told m64 at *
        obtain ⟨k, e⟩ := inc_m l.sent
        simp only [e, List.length_append, List.length_cons, List.length_nil]
        omega
      · exact ht
    · exact h
  split
  · unfold NT.spl
    split
    · refine told_upd h fun l hl ht => ?_
      unfold LN.told at *
      simpa using ht
    · exact h
  split
  · exact hturn _
  split
  · exact hturn _
  · exact h
theorem told_new (m : Nat) : (NT.new m).told := by
  intro l hl
  have := List.eq_of_mem_replicate hl
  subst this
  rfl
def NT.nil : NT := ⟨[], [], 0⟩
theorem ref_empty (h : Hs W (pt rb (.cells #[.slice none 0 0, .slice none 0 0, .int .i64 0] 38) :: L) w) : Hs W (refP rb NT.nil :: L) w := by
  refine refP_open.2 ⟨⟨rb, none, 0, none, 0, 0, [], []⟩, rfl, rfl, rd_open.2 ⟨⟨rfl, by simp, by simp⟩, ?_⟩⟩
  have h3 := (h.nil 87 1).nil 4 1
  have h4 : Hs W (pt rb (.cells #[.slice none 0 0, .slice none 0 0, .int .i64 0] 38) :: slP 87 1 none 0 0 [] :: slP 4 1 none 0 0 [] :: L) w := (Hs.focus (i := 2) h3 rfl).perm ((List.Perm.swap _ _ _).cons _)
  simpa [rcell, rrow, roff] using h4
theorem nil_fine : NT.nil.fine := by intro l hl; simp [NT.nil] at hl
theorem net_lens (h : Hs W (netP b n :: L) w) : n.lanes.length = n.down.length * 2 ∧ 1 ≤ n.down.length ∧ n.down.length ≤ 8 := by
  obtain ⟨d, rfl, rfl, g⟩ := netP_open.1 h
  have := net_of g
  exact ⟨by simpa [Nt.abs] using this.len, this.few⟩
theorem c4_end {p m : Int} {K4 : Value → Value → Value → World → Prop} {Kr : Value → World → Prop} (ht : n.told) (hp : 0 ≤ p ∧ p < (n.down.length : Int)) (hL : L = []) : ∀ (i : Nat) (e : Int) (w : World) (k : Nat), 0 ≤ e → e + i = 2 → Hs W (netP b n :: L) w → i < k →
    (∀ w', Hs W (netP b n :: L) w' → K4 (.int .i64 m) (.pointer (some ⟨b, 0, none⟩)) (.int .i64 p) w') →
    F4_1 K4 Kr k (.int .i64 m) (.pointer (some ⟨b, 0, none⟩)) (.int .i64 p) (.int .i64 e) w := by
  subst hL
  intro i
  induction i with
  | zero =>
    intro e w k he hj hw hk hK
    obtain ⟨k, rfl⟩ : ∃ j, k = j + 1 := ⟨k - 1, by omega⟩
    show F4_1B _ _ _ _ _ _ _ _
    unfold F4_1B
    simp only [rdP_mk, rdI_mk, br_dec]
    exact ⟨fun h => by exfalso; omega, fun _ => hK w hw⟩
  | succ i ih =>
    intro e w k he hj hw hk hK
    obtain ⟨k, rfl⟩ : ∃ j, k = j + 1 := ⟨k - 1, by omega⟩
    show F4_1B _ _ _ _ _ _ _ _
    unfold F4_1B
    simp only [rdP_mk, rdI_mk, br_dec]
    refine ⟨fun _ => ?_, fun h => by exfalso; omega⟩
    have hh : n.has e p := ⟨he, by omega, hp.1, hp.2⟩
    have herr : n.err e p = 0 := by unfold NT.err; rw [if_pos hh]
    obtain ⟨l, hl⟩ : ∃ l, n.lanes[idx e p]? = some l := ⟨n.lanes[idx e p]'(by have := (net_lens hw).1; unfold idx; omega), by simp⟩
    have hfl : n.fl e p = l.ps := by unfold NT.fl NT.ps; rw [herr, if_pos rfl, hl]; rfl
    have htr : n.trf e p = (l.sent, l.del, l.lost, l.forged) := by unfold NT.trf NT.traffic; rw [herr, if_pos rfl, hl]; rfl
    refine cl (s11 hw e p) ?_
    rintro _ w1 ⟨a1, c1, rfl, h1, s1⟩
    refine ⟨_, _, _, _, rfl, ?_⟩
    have h2 := hw.same s1
    refine cl (s13 h2 e p) ?_
    rintro _ w2 ⟨rfl, s2⟩
    refine ⟨_, _, _, _, _, rfl, ?_⟩
    have h3 := h2.same s2
    simp only [add_mk]
    refine h3.alc fun bt w4 h6 => h6.stc 0 rfl (by simp) fun w5 h7 => h7.stc 0 rfl (by simp) fun w6 h8 => h8.stc 0 rfl (by simp) fun w7 h9 => h9.stc 0 rfl (by simp) fun w8 h10 => ?_
    have e00 : ((0 : Int) != 0) = false := rfl
    rw [herr, e00]
    simp only [br_false]
    refine h10.ldI 0 rfl rfl (h10.ldI 0 rfl rfl (h10.ldI 0 rfl rfl (h10.ldI 0 rfl rfl ?_)))
    rw [htr, hfl]
    have hsum : IntKind.wrap .i64 (l.sent + l.forged) = IntKind.wrap .i64 (IntKind.wrap .i64 (l.del + l.lost) + (l.ps.length : Int)) := by
      have := ht l (List.mem_of_getElem? hl)
      unfold LN.told m64 at this
      have w3 := m64_wrap (l.del + l.lost)
      unfold m64 at w3
      have : (l.sent + l.forged) % 18446744073709551616 = (IntKind.wrap .i64 (l.del + l.lost) + (l.ps.length : Int)) % 18446744073709551616 := by omega
      have key : ∀ x y : Int, x % 18446744073709551616 = y % 18446744073709551616 → IntKind.wrap .i64 x = IntKind.wrap .i64 y := fun x y h => by
        simp only [IntKind.wrap, IntKind.bits, IntKind.signed]
        simp
        rw [h]
      exact key _ _ this
    rw [hsum]
    simp only [bne_self_eq_false, br_false]
    have ew : IntKind.wrap .i64 (e + 1) = e + 1 := wrap_i64 (by omega) (by omega)
    rw [ew]
    exact ih (e + 1) w8 k (by omega) (by omega) (h10.erase 0) (by omega) hK
theorem c4_paths {m : Nat} {K2 : World → Prop} {Kr : Value → World → Prop} (ht : n.told) (hm : n.down.length = m) : ∀ (i j : Nat) (w : World) (k : Nat), j + i = m → Hs W (netP b n :: []) w → i < k → (∀ w', Hs W (netP b n :: []) w' → K2 w') →
    F4_3 K2 Kr k (.int .i64 (m : Int)) (.pointer (some ⟨b, 0, none⟩)) (.int .i64 (j : Int)) w := by
  intro i
  induction i with
  | zero =>
    intro j w k hj hw hk hK
    obtain ⟨k, rfl⟩ : ∃ j, k = j + 1 := ⟨k - 1, by omega⟩
    show F4_3B _ _ _ _ _ _ _
    unfold F4_3B
    simp only [rdP_mk, rdI_mk, br_dec]
    exact ⟨fun h => by exfalso; omega, fun _ => hK w hw⟩
  | succ i ih =>
    intro j w k hj hw hk hK
    obtain ⟨k, rfl⟩ : ∃ j, k = j + 1 := ⟨k - 1, by omega⟩
    show F4_3B _ _ _ _ _ _ _
    unfold F4_3B
    simp only [rdP_mk, rdI_mk, br_dec]
    refine ⟨fun _ => ⟨3, c4_end ht ⟨by omega, by omega⟩ rfl 2 0 w 3 (by omega) (by omega) hw (by omega) fun w2 h2 _g => ?_⟩, fun h => by exfalso; omega⟩
    simp only [rdP_mk, rdI_mk]
    have := (net_lens hw).2.2
    have e1 : IntKind.wrap .i64 ((j : Int) + 1) = ((j + 1 : Nat) : Int) := by rw [wrap_i64 (by omega) (by omega)]; omega
    rw [e1]
    exact ih (j + 1) w2 k (by omega) h2 (by omega) hK
theorem c4_loop {m : Nat} (hr : Rd W sa (ops.flatMap opAV)) (ho : ∀ q ∈ ops, OpOk W q) (hl : ops.length ≤ maxLen) {K0 : Value → Value → World → Prop} : ∀ (i j : Nat) (n : NT) (w : World) (k : Nat), j + i = ops.length → Hs W (netP b n :: []) w → n.fine → n.told → n.down.length = m → i < k →
    (∀ w' n', Hs W (netP b n' :: []) w' → n'.told → n'.down.length = m → K0 (.int .i64 (m : Int)) (.pointer (some ⟨b, 0, none⟩)) w') → F4_4 K0 k (.int .i64 (m : Int)) (.slice sa ops.length sc) (.pointer (some ⟨b, 0, none⟩)) (.int .i64 (j : Int)) w := by
  intro i
  induction i with
  | zero =>
    intro j n w k hj hw hf ht hd hk hK
    obtain ⟨k, rfl⟩ : ∃ j, k = j + 1 := ⟨k - 1, by omega⟩
    show F4_4B _ _ _ _ _ _ _
    unfold F4_4B
    simp only [rdP_mk, rdC_mk, rdI_mk, br_dec]
    exact ⟨fun h => by exfalso; omega, fun _ => hK w n hw ht hd⟩
  | succ i ih =>
    intro j n w k hj hw hf ht hd hk hK
    obtain ⟨k, rfl⟩ : ∃ j, k = j + 1 := ⟨k - 1, by omega⟩
    show F4_4B _ _ _ _ _ _ _
    unfold F4_4B
    simp only [rdP_mk, rdC_mk, rdI_mk, br_dec]
    refine ⟨fun _ => ⟨fun _ => ?_, fun _ => hK w n hw ht hd⟩, fun _ => hK w n hw ht hd⟩
    unfold F4_2
    simp only [rdP_mk, rdC_mk, rdI_mk]
    refine hw.alc fun rb w1 h1 => ?_
    have h2 : Hs W (netP b n :: refP rb NT.nil :: []) w1 := Hs.focus (i := 1) (ref_empty h1) rfl
    obtain ⟨q, hq⟩ : ∃ x, ops[j]? = some x := ⟨ops[j]'(by omega), by simp⟩
    have hrw := h2.rd_old hr
    obtain ⟨ad, ha⟩ := hrw.some (by rw [flat_length opAV_len]; omega)
    have g : ∀ {k : Nat} {v : Value}, (opAV q)[k]? = some v → w1.cell? (ad.add (j * 8 + k)) = some v := fun hv => op_cells hrw hq ha hv
    have hq0 := ho q (List.mem_of_getElem? hq)
    rw [ha]
    refine ixS_of (by omega) (by omega) ?_
    simp only [Int.toNat_natCast, add_add]
    refine ldI_c (g rfl) (ldI_c (g rfl) (ldI_c (g rfl) (ldI_c (g rfl) (ldI_c (g rfl) (ldI_c (g rfl) (ldI_c (g rfl) (ldC_c (g rfl) ?_)))))))
    refine cl (c10 h2 q.o (hq0.src _) hf nil_fine) ?_
    rintro _ w2 ⟨t, rfl, _, h3⟩
    refine ⟨_, rfl, fun _g => ?_⟩
    have e1 : IntKind.wrap .i64 ((j : Int) + 1) = ((j + 1 : Nat) : Int) := by
      have : ops.length < 9223372036854775808 := by unfold maxLen at hl; omega
      rw [wrap_i64 (by omega) (by omega)]; omega
    rw [e1, ← ha]
    exact ih (j + 1) (n.act q.o) w2 k (by omega) (h3.erase 1) (fine_act hf hq0.2.2) (told_act ht) (by rw [act_down]; exact hd) (by omega) hK
theorem c4 (m : Int) (hm : -9223372036854775808 ≤ m ∧ m ≤ 9223372036854775807) (hr : Rd W sa (ops.flatMap opAV)) (ho : ∀ q ∈ ops, OpOk W q) (hl : ops.length ≤ maxLen) :
    Calls Try.prog 4 #[.int .i64 m, .slice sa ops.length sc] W (rt fun v w' => v = .bool true ∧ Same W w') := by
  have fin : ∀ w, Same W w → Calls Try.prog 8 #[] w (rt fun v w' => v = .bool true ∧ Same W w') := fun w hs => rt_mono (c8 w) fun v w' ⟨e, h⟩ => ⟨e, hs.trans h fun _ _ x => x⟩
  refine F4_ok ?_
  unfold F4
  simp only [rdC_mk, rdI_mk]
  by_cases hb : 1 ≤ m ∧ m ≤ 8
  · obtain ⟨k, rfl⟩ : ∃ k : Nat, m = k := ⟨m.toNat, by omega⟩
    refine cl (s7 (Hs.start W) k ⟨by omega, by omega⟩) ?_
    rintro _ w1 ⟨b, rfl, h1⟩
    refine ⟨_, _, rfl, ?_⟩
    have e00 : ((0 : Int) != 0) = false := rfl
    rw [e00, br_false]
    simp only [Option.isNone_some, br_false]
    refine ⟨ops.length + 1, c4_loop (m := k) hr ho hl ops.length 0 (NT.new k) w1 _ (by omega) h1 (fine_new k) (told_new k) (by simp [NT.new]) (by omega) fun w3 n3 h3 t3 d3 _g => ?_⟩
    simp only [rdP_mk, rdI_mk]
    refine ⟨k + 1, c4_paths t3 d3 k 0 w3 _ (by omega) h3 (by omega) fun w4 h4 _g => ?_⟩
    refine cl (fin w4 h4.1) ?_
    rintro _ w5 ⟨rfl, s5⟩
    exact ⟨_, rfl, rfl, s5⟩
  · refine clr (c7_bad m (by omega) W) ⟨_, _, rfl, ?_⟩
    have e00 : ((1 : Int) != 0) = true := rfl
    rw [e00, br_true]
    simp only [br_dec]
    have d1 : ∀ {R : Ending → World → Prop}, (∀ w', Same W w' → R (.returned (.bool true)) w') → Calls Try.prog 8 #[] W R := fun hk => cl (fin W (Fr.refl W)) fun v w' ⟨e, s⟩ => by rw [e]; exact hk w' s
    refine ⟨fun _ => d1 fun w' s => ⟨_, rfl, rfl, s⟩, fun h1 => ⟨fun _ => d1 fun w' s => ⟨_, rfl, rfl, s⟩, fun h2 => by exfalso; omega⟩⟩
end
end Go.Proofs.Ytnmgdeimngcbgaa
