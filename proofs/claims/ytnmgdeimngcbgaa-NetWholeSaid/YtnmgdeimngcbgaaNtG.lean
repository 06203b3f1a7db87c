/- Own text: part of the shallow reading of the code and of the contracts that are proved over it. -/
import Derived.Test.YtnmgdeimngcbgaaNtE
namespace Go.Proofs.Ytnmgdeimngcbgaa
open Go Go.Sh
section
variable {w : World} {base : Nat} {n : Nt}
theorem abs_lane {k : Nat} {d : La} (hk : n.lanes[k]? = some d) : n.abs.lanes[k]? = some d.abs := by simp [Nt.abs, hk]
theorem set_same {k : Nat} {d x : La} (hk : n.lanes[k]? = some d) : (n.lanes.set k x)[k]? = some x := by
  rw [List.getElem?_set, if_pos rfl, if_pos (List.getElem?_eq_some_iff.1 hk).1]
/-- behind the checks: the packet is counted, and put -/
theorem c24_main (h : NtR w base n) {e p : Int} (ho : okAt n e p) {d : La} (hk : n.lanes[idx e p]? = some d) {a : Option Addr} {bs : List Int} {c : Nat} (hr : Rd w a (byV bs)) (hsrc : bs ≠ [] → ∀ k, inB a k → k ∉ n.foot) (hl : bs.length ≤ 65536) (hm : d.ps.length < 4096) (hbase : base ≤ w.heap.size) {now : Int} {forged : Bool} {K : Value → World → Prop}
    (hK : ∀ w' n', Step base n n' w w' → n'.abs = n.abs.enter e p now forged bs → K (.tuple #[.int .i64 n.next, .int .i64 0]) w') :
    ldI .i64 ⟨n.b, 0 + 2, none⟩ w fun n21 => ldI .i64 ⟨n.b, 0 + 2, none⟩ w fun n23 => stc ⟨n.b, 0 + 2, none⟩ (.int .i64 (IntKind.wrap .i64 (n23 + 1))) w fun w25 => br forged (ldI .i64 ⟨d.b, 0 + 0 + 3, none⟩ w25 fun n27 => stc ⟨d.b, 0 + 0 + 3, none⟩ (.int .i64 (IntKind.wrap .i64 (n27 + 1))) w25 fun w29 => F24_2 (fun y12_29 y13_29 w31 => ∀ _g32 : Tm, rdI .i64 y12_29 fun n33 => rdI .i64 y13_29 fun n34 => K (.tuple #[(.int .i64 n33), (.int .i64 n34)]) w31) (.pointer (some ⟨n.b, 0, none⟩)) (.int .i64 p) (.slice a bs.length c) (.int .i64 now) (.bool forged) (.pointer (some ⟨d.b, 0, none⟩)) (.int .i64 n21) w29) (ldI .i64 ⟨d.b, 0 + 0 + 0, none⟩ w25 fun n36 => stc ⟨d.b, 0 + 0 + 0, none⟩ (.int .i64 (IntKind.wrap .i64 (n36 + 1))) w25 fun w38 => F24_2 (fun y12_38 y13_38 w40 => ∀ _g41 : Tm, rdI .i64 y12_38 fun n42 => rdI .i64 y13_38 fun n43 => K (.tuple #[(.int .i64 n42), (.int .i64 n43)]) w40) (.pointer (some ⟨n.b, 0, none⟩)) (.int .i64 p) (.slice a bs.length c) (.int .i64 now) (.bool forged) (.pointer (some ⟨d.b, 0, none⟩)) (.int .i64 n21) w38) := by
  obtain ⟨h1, h2, h3, h4⟩ := ho
  refine ldI_at h.cell rfl (ldI_at h.cell rfl (stc_at h.cell (by simp) ?_))
  generalize hw1 : sb w n.b _ = w1
  have S1 : Step base n { n with next := inc n.next } w w1 := step_next h hk (inc n.next) w1 hw1.symm
  clear hw1
  have l1 := S1.net.lanes d (List.mem_of_getElem? (show n.lanes[idx e p]? = some d from hk))
  have fin : ∀ (d1 : La) (w2 : World), Step base { n with next := inc n.next } { n with lanes := n.lanes.set (idx e p) d1, next := inc n.next } w1 w2 → d1.abs = d.abs.count forged → d1.ps.length = d.ps.length → d1.b = d.b →
      F24_2 (fun y12_29 y13_29 w31 => ∀ _g32 : Tm, rdI .i64 y12_29 fun n33 => rdI .i64 y13_29 fun n34 => K (.tuple #[(.int .i64 n33), (.int .i64 n34)]) w31) (.pointer (some ⟨n.b, 0, none⟩)) (.int .i64 p) (.slice a bs.length c) (.int .i64 now) (.bool forged) (.pointer (some ⟨d.b, 0, none⟩)) (.int .i64 n.next) w2 := by
    intro d1 w2 S2 hab hps hb
    have S := S1.trans S2
    have hk2 : (({ n with lanes := n.lanes.set (idx e p) d1, next := inc n.next } : Nt).lanes)[idx e p]? = some d1 := set_same hk
    rw [← hb]
    refine c24_fin (k := idx e p) S.net hk2 h3 h4 (by
      rcases Classical.em (bs = []) with e | e
      · subst e; exact Rd.nil _ _
      · exact hr.fr S.fr fun ad he => hsrc e _ ⟨ad, he, rfl⟩) hl (by omega) (Nat.le_trans hbase S.fr.size) fun w' d' S3 hd' _g => ?_
    simp only [rdI_mk]
    refine hK w' _ (S.trans S3) ?_
    have e1 : ({ n with lanes := n.lanes.set (idx e p) d1, next := inc n.next } : Nt).abs.isDown p = n.abs.isDown p := rfl
    rw [e1, hab] at hd'
    unfold NT.enter NT.upd
    rw [abs_lane hk]
    show ({ n with lanes := (n.lanes.set (idx e p) d1).set (idx e p) d', next := inc n.next } : Nt).abs = _
    rw [List.set_set]
    simp [Nt.abs, List.map_set, hd']
  cases forged with
  | true =>
    simp only [br_true]
    refine ldI_at l1.cell rfl (stc_at l1.cell (by simp) ?_)
    generalize hw2 : sb w1 d.b _ = w2
    exact fin { d with forged := inc d.forged } w2 (step_lane S1.net (show n.lanes[idx e p]? = some d from hk) { d with forged := inc d.forged } rfl rfl rfl rfl w2 hw2.symm) rfl rfl rfl
  | false =>
    simp only [br_false]
    refine ldI_at l1.cell rfl (stc_at l1.cell (by simp) ?_)
    generalize hw2 : sb w1 d.b _ = w2
    exact fin { d with sent := inc d.sent } w2 (step_lane S1.net (show n.lanes[idx e p]? = some d from hk) { d with sent := inc d.sent } rfl rfl rfl rfl w2 hw2.symm) rfl rfl rfl
theorem c24 (h : NtR w base n) (e p now : Int) (forged : Bool) {a : Option Addr} {bs : List Int} {c : Nat} (hr : Rd w a (byV bs)) (hsrc : bs ≠ [] → ∀ k, inB a k → k ∉ n.foot) (hbase : base ≤ w.heap.size) :
    Calls Try.prog 24 #[.pointer (some ⟨n.b, 0, none⟩), .int .i64 e, .int .i64 p, .slice a bs.length c, .int .i64 now, .bool forged] w (rt fun v w' => v = .tuple #[.int .i64 (if n.abs.code e p now bs.length = 0 then n.next else 0), .int .i64 (n.abs.code e p now bs.length)] ∧ ∃ n', Step base n n' w w' ∧ n'.abs = if n.abs.code e p now bs.length = 0 then n.abs.enter e p now forged bs else n.abs) := by
  have stay : Step base n n w w := Step.same h (Fr.refl w)
  refine F24_ok ?_
  unfold F24
  simp only [rdP_mk, rdI_mk, rdC_mk, rdB_mk]
  by_cases ho : okAt n e p
  · obtain ⟨d, hd⟩ := lane_at h ho
    have hk : n.lanes[idx e p]? = some d := hd
    have hhas : n.abs.has e p := ho
    have hmany : n.abs.many e p = d.ps.length := by
      unfold NT.many
      rw [abs_lane hk]
      simp [La.abs]
    have ld := h.lanes d (List.mem_of_getElem? hk)
    refine clr (c33_ok h ho hd) ⟨_, _, rfl, ?_⟩
    have e0 : ((0 : Int) != 0) = false := rfl
    rw [e0, br_false]
    have code1 : (now < 0 ∨ now > 1099511627776) → n.abs.code e p now bs.length = 1 := fun hn => by unfold NT.code; rw [if_pos hhas, if_pos hn]
    simp only [br_dec]
    refine ⟨fun hn => ?_, fun hn => ?_⟩
    · unfold F24_1
      simp only [rdP_mk, rdI_mk, rdC_mk, rdB_mk, br_true]
      intro _g
      rw [code1 (.inl hn), if_neg (by decide), if_neg (by decide)]
      exact ⟨rfl, n, stay, rfl⟩
    · unfold F24_1
      simp only [rdP_mk, rdI_mk, rdC_mk, rdB_mk, br_dec, nn_some, add_mk]
      refine ⟨fun hn2 _g => ?_, fun hn2 => ⟨fun hl _g => ?_, fun hl => ldC_at ld.cell rfl ⟨fun hm _g => ?_, fun hm _g => ?_⟩⟩⟩
      · rw [code1 (.inr hn2), if_neg (by decide), if_neg (by decide)]
        exact ⟨rfl, n, stay, rfl⟩
      · have hc : n.abs.code e p now bs.length = 2 := by unfold NT.code; rw [if_pos hhas, if_neg (by omega), if_pos (by omega)]
        rw [hc, if_neg (by decide), if_neg (by decide)]
        exact ⟨rfl, n, stay, rfl⟩
      · have hc : n.abs.code e p now bs.length = 3 := by unfold NT.code; rw [if_pos hhas, if_neg (by omega), if_neg (by omega), if_pos (by rw [hmany]; omega)]
        rw [hc, if_neg (by decide), if_neg (by decide)]
        exact ⟨rfl, n, stay, rfl⟩
      · have hc : n.abs.code e p now bs.length = 0 := by unfold NT.code; rw [if_pos hhas, if_neg (by omega), if_neg (by omega), if_neg (by rw [hmany]; omega)]
        rw [hc, if_pos rfl, if_pos rfl]
        exact c24_main (K := fun v w' => v = .tuple #[.int .i64 n.next, .int .i64 0] ∧ ∃ n', Step base n n' w w' ∧ n'.abs = n.abs.enter e p now forged bs) h ho hk hr hsrc (by omega) (by omega) hbase fun w' n' S hn' => ⟨rfl, n', S, hn'⟩
  · have hhas : ¬ n.abs.has e p := ho
    refine clr (c33_no h ho) ⟨_, _, rfl, ?_⟩
    have e0 : ((90 : Int) != 0) = true := rfl
    rw [e0, br_true]
    have hc : n.abs.code e p now bs.length = 90 := by unfold NT.code; rw [if_neg hhas]
    rw [hc, if_neg (by decide), if_neg (by decide)]
    exact ⟨rfl, n, stay, rfl⟩
end
end Go.Proofs.Ytnmgdeimngcbgaa
