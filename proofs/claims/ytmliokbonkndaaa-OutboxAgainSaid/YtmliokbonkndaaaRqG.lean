/-
  The document's box: what a report tells of a path; later chunks that came.
-/
import Derived.Test.YtmliokbonkndaaaRqF
namespace Go.Proofs.Ytmliokbonkndaaa
open Go Go.Sh
def tellG (r : Rp) (e : En) : Bool := decide (sd r.tsn e.tsn ≤ 0) || ins r.nr (sd r.tsn e.tsn)
def tellT (r : Rp) (e : En) : Bool := tellG r e || ins r.G (sd r.tsn e.tsn)
def tellN (r : Rp) (l : List En) (k : Nat) : Bool := match l[k]? with | some e => tellT r e && e.opn | none => false
def laterFrom (nw : Nat → Bool) (p s : Int) : Nat → List En → Bool
  | _, [] => false
  | k, e :: r => (nw k && (e.path == p && decide (e.sent ≥ s))) || laterFrom nw p s (k + 1) r
section
variable {W w : World} {L M : List HP} {rb : Nat} {n cum : Int} {a : Option Addr} {c : Nat} {ds : List Dt} {d : Dt} {j : Nat} {s : R30} {r : Rp}
theorem c75 {na : Option Addr} {nc i : Nat} {nw : Nat → Bool} {di : Dt} (h : RQ w rb n cum a c ds) (hl : ds.length ≤ 1048576) (hn : Rd w na (bV ds.length nw)) (hi : ds[i]? = some di) :
    Calls Try.prog 75 #[.pointer (some ⟨rb, 0, none⟩), .slice na ds.length nc, .int .i64 (i : Int)] w (rt fun v w' => v = .bool (laterFrom nw di.1.path di.1.sent (i + 1) ((fsts ds).drop (i + 1))) ∧ Same w w') := by
  refine F75_ok ?_
  unfold F75
  simp only [rdP_mk, rdC_mk, rdI_mk]
  have hil := (List.getElem?_eq_some_iff.1 hi).1
  have loop : ∀ (q j : Nat) (w1 : World) (k : Nat) (K0 : World → Prop) (Kr : Value → World → Prop), j + q = ds.length → Same w w1 → q < k → (∀ w', Same w w' → laterFrom nw di.1.path di.1.sent j ((fsts ds).drop j) = false → K0 w') → (∀ w', Same w w' → laterFrom nw di.1.path di.1.sent j ((fsts ds).drop j) = true → Kr (.bool true) w') →
      F75_1 K0 Kr k (.pointer (some ⟨rb, 0, none⟩)) (.slice na ds.length nc) (.int .i64 (i : Int)) (.int .i64 (j : Int)) w1 := by
    intro q
    induction q with
    | zero =>
      intro j w1 k K0 Kr hj hs hk hK hKr
      obtain ⟨k, rfl⟩ : ∃ j, k = j + 1 := ⟨k - 1, by omega⟩
      show F75_1B _ _ _ _ _ _ _ _
      unfold F75_1B
      simp only [rdP_mk, rdC_mk, rdI_mk, nn_some, add_mk]
      refine (h.same hs).len ?_
      rw [br_dec]
      refine ⟨fun h => by exfalso; omega, fun _ => hK w1 hs ?_⟩
      rw [List.drop_eq_nil_of_le (by rw [fsts_length]; omega)]; rfl
    | succ q ih =>
      intro j w1 k K0 Kr hj hs hk hK hKr
      obtain ⟨k, rfl⟩ : ∃ j, k = j + 1 := ⟨k - 1, by omega⟩
      show F75_1B _ _ _ _ _ _ _ _
      unfold F75_1B
      simp only [rdP_mk, rdC_mk, rdI_mk, nn_some, add_mk]
      refine (h.same hs).len ?_
      rw [br_dec]
      refine ⟨fun _ => ?_, fun h => by exfalso; omega⟩
      unfold drw
      have hs' : Same w w1.drew := hs.trans (Fr.refl w1).drew fun _ _ x => x
      generalize w1.drew = w4 at hs' ⊢
      have hq := h.same hs'
      obtain ⟨d, hdj⟩ : ∃ d, ds[j]? = some d := ⟨ds[j]'(by omega), by simp⟩
      have e0 : laterFrom nw di.1.path di.1.sent j ((fsts ds).drop j) = ((nw j && (d.1.path == di.1.path && decide (d.1.sent ≥ di.1.sent))) || laterFrom nw di.1.path di.1.sent (j + 1) ((fsts ds).drop (j + 1))) := by rw [drop_at (fsts_at hdj)]; rfl
      have e1 : IntKind.wrap .i64 ((j : Int) + 1) = ((j + 1 : Nat) : Int) := by rw [wrap_i64 (by omega) (by omega)]; omega
      rw [e1]
      have skip : (nw j && (d.1.path == di.1.path && decide (d.1.sent ≥ di.1.sent))) = false → F75_1 K0 Kr k (.pointer (some ⟨rb, 0, none⟩)) (.slice na ds.length nc) (.int .i64 (i : Int)) (.int .i64 ((j + 1 : Nat) : Int)) w4 := by
        intro hno
        rw [hno, Bool.false_or] at e0
        rw [e0] at hK hKr
        exact ih (j + 1) w4 k K0 Kr (by omega) hs' (by omega) hK hKr
      have m1 : Rd w4 na (bV ds.length nw) := hn.fr hs' fun _ _ x => x
      obtain ⟨nd, hnd⟩ := m1.some (by rw [bV_length]; omega)
      have skip' := skip
      rw [hnd] at m1 skip' ⊢
      refine ixS_to (p := j) rfl (by omega) ?_
      rw [Nat.mul_one]
      refine ldB_c (m1.at (bV_at (by omega))) ?_
      rw [br_iff]
      refine ⟨fun hb => ?_, fun hb => skip' (by rw [hb]; rfl)⟩
      refine hq.len (hq.at_row hdj fun ad _ hat => at_i (k := 1) hat rfl ?_)
      refine hq.len (hq.at_row hi fun ad _ hat => at_i (k := 1) hat rfl ?_)
      rw [br_iff]
      refine ⟨fun hp => ?_, fun hp => skip' ?_⟩
      · refine hq.len (hq.at_row hdj fun ad _ hat => at_i (k := 3) hat rfl ?_)
        refine hq.len (hq.at_row hi fun ad _ hat => at_i (k := 3) hat rfl ?_)
        rw [br_dec]
        refine ⟨fun hse => hKr w4 hs' ?_, fun hse => skip' ?_⟩
        · rw [e0, hb]
          have hp : (d.1.path == di.1.path) = true := hp
          have hse : d.1.sent ≥ di.1.sent := hse
          rw [hp, decide_eq_true hse]; rfl
        · have hse : ¬ d.1.sent ≥ di.1.sent := hse
          rw [decide_eq_false hse]; simp
      · have hp : (d.1.path == di.1.path) = false := hp
        rw [hp]; simp
  have e1 : IntKind.wrap .i64 ((i : Int) + 1) = ((i + 1 : Nat) : Int) := by rw [wrap_i64 (by omega) (by omega)]; omega
  rw [e1]
  refine ⟨ds.length + 1, loop (ds.length - (i + 1)) (i + 1) w _ _ _ (by omega) (Fr.refl w) (by omega) (fun w' s hp _g => ?_) fun w' s hp _g => ?_⟩
  · rw [hp]; exact ⟨rfl, s⟩
  · simp only [rdB_mk]
    rw [hp]; exact ⟨rfl, s⟩
/-- one chunk's part in what is told of a path -/
theorem c71_1 {b9 b7 b5 b15 p : Nat} {st : R52} {T : Bool} {now : Int} {K1 Kn : Value → Value → Value → Value → Value → Value → Value → Value → World → Prop}
    (h : Hs w [pt b15 (.cells (d.1.r d.2.1 d.2.2).c 58 (0, 0)), pt b9 (.cells st.c 53 (0, 0)), pt b7 (.cells (R52.mk 0 false 0 0).c 53 (0, 0)), pt b5 (.cells s.c 31 (0, 0))] W)
    (hK : ∀ w' st', st' = (if T = true then R52.mk (IntKind.wrap .i64 (st.f0 + d.1.data.length)) st.f1 (if d.1.times = 1 then (if IntKind.wrap .i64 (now - d.1.sent) > 0 then IntKind.wrap .i64 (now - d.1.sent) else 0) else st.f2) st.f3 else st) → Hs w [pt b15 (.cells (d.1.r d.2.1 d.2.2).c 58 (0, 0)), pt b9 (.cells st'.c 53 (0, 0)), pt b7 (.cells (R52.mk 0 false 0 0).c 53 (0, 0)), pt b5 (.cells s.c 31 (0, 0))] w' →
      K1 (.pointer (some ⟨rb, 0, none⟩)) (.int .i64 (p : Int)) (.int .i64 now) (.pointer (some ⟨b5, 0, none⟩)) (.pointer (some ⟨b7, 0, none⟩)) (.pointer (some ⟨b9, 0, none⟩)) (.bool false) (.int .i64 (j : Int)) w' ∧ Kn (.pointer (some ⟨rb, 0, none⟩)) (.int .i64 (p : Int)) (.int .i64 now) (.pointer (some ⟨b5, 0, none⟩)) (.pointer (some ⟨b7, 0, none⟩)) (.pointer (some ⟨b9, 0, none⟩)) (.bool false) (.int .i64 (j : Int)) w') :
    F71_1 K1 Kn (.pointer (some ⟨rb, 0, none⟩)) (.int .i64 (p : Int)) (.int .i64 now) (.pointer (some ⟨b5, 0, none⟩)) (.pointer (some ⟨b7, 0, none⟩)) (.pointer (some ⟨b9, 0, none⟩)) (.int .i64 (j : Int)) (.pointer (some ⟨b15, 0, none⟩)) (.bool T) W := by
  unfold F71_1
  simp only [rdP_mk, rdI_mk, rdA_mk, rdB_mk, add_mk]
  cases T with
  | false =>
    rw [Bool.not_false, br_true]
    exact (hK W st rfl h).1
  | true =>
    rw [Bool.not_true, br_false]
    refine h.drw fun w1 h1 => ⟨w1, Pres.of_Same (Fr.refl _), ?_⟩
    refine h1.ldI 1 rfl rfl (ldR57_of (s := d.1.r d.2.1 d.2.2) (h1.atL 0 rfl) ?_)
    refine cl (c74 _ w1) ?_
    rintro _ w2 ⟨rfl, s2⟩
    refine ⟨_, rfl, Pres.of_Same s2, ?_⟩
    have h2 := h1.same s2
    clear h h1
    refine h2.stc 1 rfl (by simp [R52.c]) fun w3 h3 => ?_
    have h3 : Hs w [pt b15 (.cells (d.1.r d.2.1 d.2.2).c 58 (0, 0)), pt b9 (.cells (R52.mk (IntKind.wrap .i64 (st.f0 + d.1.data.length)) st.f1 st.f2 st.f3).c 53 (0, 0)), pt b7 (.cells (R52.mk 0 false 0 0).c 53 (0, 0)), pt b5 (.cells s.c 31 (0, 0))] w3 := h3
    refine h3.ldI 0 rfl rfl ?_
    show br (d.1.times == 1) _ _
    rw [br_iff]
    refine ⟨fun ht => ?_, fun ht => ?_⟩
    · have ht : d.1.times = 1 := by simpa using ht
      refine h3.ldI 0 rfl rfl ?_
      refine h3.stc 1 rfl (by simp [R52.c]) fun w4 h4 => ?_
      have h4 : Hs w [pt b15 (.cells (d.1.r d.2.1 d.2.2).c 58 (0, 0)), pt b9 (.cells (R52.mk (IntKind.wrap .i64 (st.f0 + d.1.data.length)) st.f1 (IntKind.wrap .i64 (now - d.1.sent)) st.f3).c 53 (0, 0)), pt b7 (.cells (R52.mk 0 false 0 0).c 53 (0, 0)), pt b5 (.cells s.c 31 (0, 0))] w4 := h4
      refine h4.ldI 1 rfl rfl ?_
      rw [br_dec]
      refine ⟨fun hn => ?_, fun hn => ?_⟩
      · have hn : IntKind.wrap .i64 (now - d.1.sent) < 0 := hn
        refine h4.stc 1 rfl (by simp [R52.c]) fun w5 h5 => ?_
        refine (hK w5 (R52.mk (IntKind.wrap .i64 (st.f0 + d.1.data.length)) st.f1 0 st.f3) ?_ h5).2
        rw [if_pos rfl, if_pos ht, if_neg (by omega)]
      · have hn : ¬ IntKind.wrap .i64 (now - d.1.sent) < 0 := hn
        refine (hK w4 _ ?_ h4).2
        rw [if_pos rfl, if_pos ht]
        congr 1
        split <;> omega
    · have ht : ¬ d.1.times = 1 := by simpa using ht
      refine (hK w3 _ ?_ h3).2
      rw [if_pos rfl, if_neg ht]
theorem c71 (h : RQ w rb n cum a c ds) (hl : ds.length ≤ 1048576) (hk : ChOk w s r) (ht : ∀ e ∈ fsts ds, 0 ≤ e.tsn ∧ e.tsn < 4294967296) (p : Nat) (now : Int) :
    Calls Try.prog 71 #[.pointer (some ⟨rb, 0, none⟩), s.v, .int .i64 (p : Int), .int .i64 now] w (rt fun v w' => v = (ackOut now (tellN r (fsts ds)) (fsts ds) p).v ∧ Same w w') := by
  refine F71_ok ?_
  unfold F71
  simp only [rdP_mk, rdI_mk]
  refine exR30_of s ⟨rfl, ?_⟩
  refine (Hs.start w).alc fun b5 w1 h1 => h1.alc fun b7 w2 h2 => h2.alc fun b9 w3 h3 => h3.stcL 0 rfl rfl fun w4 h4 => ?_
  have loop : ∀ (i j : Nat) (w1 : World) (k : Nat) (K0 : Value → Value → World → Prop), j + i = ds.length → Hs w [pt b9 (.cells (stj now (tellN r (fsts ds)) (fsts ds) j p).1.c 53 (0, 0)), pt b7 (.cells (R52.mk 0 false 0 0).c 53 (0, 0)), pt b5 (.cells s.c 31 (0, 0))] w1 → i < k →
      (∀ w', Hs w [pt b9 (.cells (ackOut now (tellN r (fsts ds)) (fsts ds) p).c 53 (0, 0)), pt b7 (.cells (R52.mk 0 false 0 0).c 53 (0, 0)), pt b5 (.cells s.c 31 (0, 0))] w' → K0 (.pointer (some ⟨b7, 0, none⟩)) (.pointer (some ⟨b9, 0, none⟩)) w') →
      F71_3 K0 k (.pointer (some ⟨rb, 0, none⟩)) (.int .i64 (p : Int)) (.int .i64 now) (.pointer (some ⟨b5, 0, none⟩)) (.pointer (some ⟨b7, 0, none⟩)) (.pointer (some ⟨b9, 0, none⟩)) (.bool (!(stj now (tellN r (fsts ds)) (fsts ds) j p).2)) (.int .i64 (j : Int)) w1 := by
    intro i
    induction i with
    | zero =>
      intro j w1 k K0 hj hs hk' hK
      obtain ⟨k, rfl⟩ : ∃ j, k = j + 1 := ⟨k - 1, by omega⟩
      show F71_3B _ _ _ _ _ _ _ _ _ _ _
      unfold F71_3B
      simp only [rdP_mk, rdI_mk, rdA_mk, rdB_mk, nn_some, add_mk]
      refine (h.same hs.old).len ?_
      rw [br_dec]
      refine ⟨fun h => by exfalso; omega, fun _ => hK w1 ?_⟩
      unfold ackOut
      rw [fsts_length, show ds.length = j by omega]
      exact hs
    | succ i ih =>
      intro j w1 k K0 hj hs hk' hK
      obtain ⟨k, rfl⟩ : ∃ j, k = j + 1 := ⟨k - 1, by omega⟩
      show F71_3B _ _ _ _ _ _ _ _ _ _ _
      unfold F71_3B
      simp only [rdP_mk, rdI_mk, rdA_mk, rdB_mk, nn_some, add_mk]
      have hq := h.same hs.old
      refine hq.len ?_
      rw [br_dec]
      refine ⟨fun _ => ?_, fun h => by exfalso; omega⟩
      obtain ⟨d, hdj⟩ : ∃ d, ds[j]? = some d := ⟨ds[j]'(by omega), by simp⟩
      have e1 : IntKind.wrap .i64 ((j : Int) + 1) = ((j + 1 : Nat) : Int) := by rw [wrap_i64 (by omega) (by omega)]; omega
      rw [e1]
      obtain ⟨st, hst⟩ : ∃ st, st = stj now (tellN r (fsts ds)) (fsts ds) j p := ⟨_, rfl⟩
      have hnext : stj now (tellN r (fsts ds)) (fsts ds) (j + 1) p = akStep now p st (d.1, tellN r (fsts ds) j) := by
        rw [hst]
        unfold stj
        rw [List.take_add_one, withF_at (fsts_at hdj), List.foldl_append]
        rfl
      rw [← hst] at hs ⊢
      have htd := ht d.1 (List.mem_of_getElem? (fsts_at hdj))
      refine hq.len (hq.at_row hdj fun ad _ hat => ?_)
      refine ldR57_of (s := d.1.r d.2.1 d.2.2) hat ?_
      refine hs.alc fun b15 w2 g1 => g1.stcL 0 rfl rfl fun w3 g2 => ?_
      have g2 : Hs w [pt b15 (.cells (d.1.r d.2.1 d.2.2).c 58 (0, 0)), pt b9 (.cells st.1.c 53 (0, 0)), pt b7 (.cells (R52.mk 0 false 0 0).c 53 (0, 0)), pt b5 (.cells s.c 31 (0, 0))] w3 := g2
      refine ldR30_of (s := s) (g2.atL 3 rfl) (ldR57_of (s := d.1.r d.2.1 d.2.2) (g2.atL 0 rfl) ?_)
      refine cl (c72 (hk.same g2.old) (d.1.r d.2.1 d.2.2) htd) ?_
      rintro _ w4 ⟨rfl, s4⟩
      refine ⟨_, _, rfl, ?_⟩
      have g4 := g2.same s4
      show ldR57 _ w4 _
      refine ldR57_of (s := d.1.r d.2.1 d.2.2) (g4.atL 0 rfl) ?_
      refine cl (c73 _ w4) ?_
      rintro _ w5 ⟨rfl, s5⟩
      refine ⟨_, rfl, ?_⟩
      have g5 := g4.same s5
      clear g1 g2 g4
      have hT : ((decide (sd r.tsn (d.1.r d.2.1 d.2.2).f0 ≤ 0) || ins r.nr (sd r.tsn (d.1.r d.2.1 d.2.2).f0)) || ins r.G (sd r.tsn (d.1.r d.2.1 d.2.2).f0)) = tellT r d.1 := rfl
      rw [hT]
      show br (!d.1.opn) _ _
      have hN : tellN r (fsts ds) j = (tellT r d.1 && d.1.opn) := by unfold tellN; rw [fsts_at hdj]
      rw [hN] at hnext
      have skip : akStep now p st (d.1, (tellT r d.1 && d.1.opn)) = st → F71_3 K0 k (.pointer (some ⟨rb, 0, none⟩)) (.int .i64 (p : Int)) (.int .i64 now) (.pointer (some ⟨b5, 0, none⟩)) (.pointer (some ⟨b7, 0, none⟩)) (.pointer (some ⟨b9, 0, none⟩)) (.bool (!st.2)) (.int .i64 ((j + 1 : Nat) : Int)) w5 := by
        intro he
        rw [he] at hnext
        have := ih (j + 1) w5 k K0 (by omega) (by rw [hnext]; exact g5.drop) (by omega) hK
        rw [hnext] at this
        exact this
      rw [br_iff]
      refine ⟨fun ho => skip ?_, fun ho => ?_⟩
      · have ho : d.1.opn = false := by simpa using ho
        unfold akStep
        rw [if_neg (by simp [ho])]
      have ho : d.1.opn = true := by simpa using ho
      refine g5.ldI 0 rfl rfl ?_
      show br (d.1.path != (p : Int)) _ _
      rw [br_iff]
      refine ⟨fun hp => skip ?_, fun hp => ?_⟩
      · have hp : ¬ d.1.path = (p : Int) := by simpa using hp
        unfold akStep
        rw [if_neg (by simp [hp])]
      have hp : d.1.path = (p : Int) := by simpa using hp
      rw [ho, Bool.and_true] at hnext
      have fin : ∀ w' st', st' = (akStep now p st (d.1, tellT r d.1)).1 → Hs w [pt b15 (.cells (d.1.r d.2.1 d.2.2).c 58 (0, 0)), pt b9 (.cells st'.c 53 (0, 0)), pt b7 (.cells (R52.mk 0 false 0 0).c 53 (0, 0)), pt b5 (.cells s.c 31 (0, 0))] w' →
          F71_3 K0 k (.pointer (some ⟨rb, 0, none⟩)) (.int .i64 (p : Int)) (.int .i64 now) (.pointer (some ⟨b5, 0, none⟩)) (.pointer (some ⟨b7, 0, none⟩)) (.pointer (some ⟨b9, 0, none⟩)) (.bool false) (.int .i64 ((j + 1 : Nat) : Int)) w' := by
        intro w' st' he h'
        have hs2 : (akStep now p st (d.1, tellT r d.1)).2 = true := by unfold akStep; rw [if_pos ⟨ho, hp⟩]
        have := ih (j + 1) w' k K0 (by omega) (by rw [hnext, ← he]; exact h'.drop) (by omega) hK
        rw [hnext, hs2] at this
        exact this
      have hstep : (akStep now p st (d.1, tellT r d.1)).1 = (if tellT r d.1 = true then R52.mk (IntKind.wrap .i64 (st.1.f0 + d.1.data.length)) (if st.2 = true then st.1.f1 else tellT r d.1) (if d.1.times = 1 then (if IntKind.wrap .i64 (now - d.1.sent) > 0 then IntKind.wrap .i64 (now - d.1.sent) else 0) else st.1.f2) st.1.f3 else R52.mk st.1.f0 (if st.2 = true then st.1.f1 else tellT r d.1) st.1.f2 st.1.f3) := by
        unfold akStep
        rw [if_pos ⟨ho, hp⟩]
      unfold F71_2
      simp only [rdP_mk, rdI_mk, rdA_mk, rdB_mk, add_mk]
      cases h2 : st.2 with
      | false =>
        rw [Bool.not_false, br_true]
        rw [h2] at hstep
        refine g5.stc 1 rfl (by simp [R52.c]) fun w6 g6 => ?_
        have g6 : Hs w [pt b15 (.cells (d.1.r d.2.1 d.2.2).c 58 (0, 0)), pt b9 (.cells (R52.mk st.1.f0 (tellT r d.1) st.1.f2 st.1.f3).c 53 (0, 0)), pt b7 (.cells (R52.mk 0 false 0 0).c 53 (0, 0)), pt b5 (.cells s.c 31 (0, 0))] w6 := g6
        refine c71_1 g6 fun w' st' he h' => ?_
        simp only [rdP_mk, rdI_mk, rdA_mk, rdB_mk, e1]
        have := fin w' st' (by rw [he, hstep]; rfl) h'
        exact ⟨fun _ _ => this, fun _ _ => this⟩
      | true =>
        rw [Bool.not_true, br_false]
        rw [h2] at hstep
        refine c71_1 (st := st.1) g5 fun w' st' he h' => ?_
        simp only [rdP_mk, rdI_mk, rdA_mk, rdB_mk, e1]
        have := fin w' st' (by rw [he, hstep]; rfl) h'
        exact ⟨fun _ _ => this, fun _ _ => this⟩
  refine ⟨ds.length + 1, loop ds.length 0 w4 _ _ (by omega) h4 (by omega) fun w' hw _g => ?_⟩
  simp only [rdA_mk]
  refine ldR52_of (s := ackOut now (tellN r (fsts ds)) (fsts ds) p) (hw.atL 0 rfl) ?_
  refine hw.stcL 1 rfl rfl fun w5 h5 => ?_
  exact ldR52_of (s := ackOut now (tellN r (fsts ds)) (fsts ds) p) (h5.atL 1 rfl) ⟨rfl, h5.old⟩
end
end Go.Proofs.Ytmliokbonkndaaa
