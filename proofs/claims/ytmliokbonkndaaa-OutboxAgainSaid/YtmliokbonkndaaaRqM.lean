/-
  What stays true of every box (plain).
-/
import Derived.Test.YtmliokbonkndaaaRqL
namespace Go.Proofs.Ytmliokbonkndaaa
open Go Go.Sh
/-- the same chunk, in whatever state -/
def sameE (e' e : En) : Prop := e'.tsn = e.tsn ∧ e'.path = e.path ∧ e'.sent = e.sent ∧ e'.data = e.data ∧ (1 ≤ e.st ∧ e.st ≤ 4 → 1 ≤ e'.st ∧ e'.st ≤ 4)
theorem sameE.refl (e : En) : sameE e e := ⟨rfl, rfl, rfl, rfl, fun h => h⟩
theorem sameE.trans {a b c : En} (h : sameE a b) (g : sameE b c) : sameE a c := ⟨h.1.trans g.1, h.2.1.trans g.2.1, h.2.2.1.trans g.2.2.1, h.2.2.2.1.trans g.2.2.2.1, fun x => h.2.2.2.2 (g.2.2.2.2 x)⟩
theorem turn_same (f1 f2 f3 : Bool) (e : En) : sameE (turnF f1 f2 f3 e) e := by
  unfold turnF
  cases f1 <;> cases f2 <;> cases f3 <;> by_cases h : e.st = 3 <;> simp [h, En.mk', sameE] <;> omega
theorem quickF_same (B : Bool) (e : En) : sameE (quickF B e) e := by
  unfold quickF
  split
  · split
    · exact ⟨rfl, rfl, rfl, rfl, fun _ => by show (1 : Int) ≤ 2 ∧ (2 : Int) ≤ 4; omega⟩
    · exact ⟨rfl, rfl, rfl, rfl, fun h => h⟩
  · exact sameE.refl e
theorem mapIdx_same {f : Nat → En → En} (hf : ∀ k e, sameE (f k e) e) {l : List En} {k : Nat} {e' : En} (h : (l.mapIdx f)[k]? = some e') : ∃ e, l[k]? = some e ∧ sameE e' e := by
  rw [List.getElem?_mapIdx] at h
  cases hk : l[k]? with
  | none => rw [hk] at h; cases h
  | some e =>
    rw [hk] at h
    refine ⟨e, rfl, ?_⟩
    rw [← Option.some.inj h]
    exact hf k e
section
variable {N p : Nat} {cum now path : Int} {l : List En} {r : Rp} {nw : Nat → Bool} {F0 : Nat → R52} {e : En} {k j : Nat}
theorem l1_same {e' : En} (h : (r.l1 cum l)[k]? = some e') : ∃ e, l[k]? = some e ∧ sameE e' e := mapIdx_same (fun _ e => turn_same _ _ _ e) h
theorem l2_same {e' : En} (h : (r.l2 cum now l)[k]? = some e') : ∃ e, l[k]? = some e ∧ sameE e' e := by
  obtain ⟨e1, h1, s1⟩ := mapIdx_same (f := quickL (r.newly cum l) (r.ack cum now l) (r.l1 cum l)) (fun k e => quickF_same _ e) h
  obtain ⟨e, h2, s2⟩ := l1_same h1
  exact ⟨e, h2, s1.trans s2⟩
theorem l1_mem {e' : En} (h : e' ∈ r.l1 cum l) : ∃ e ∈ l, sameE e' e := by
  obtain ⟨k, hk⟩ := List.getElem?_of_mem h
  obtain ⟨e, h1, h2⟩ := l1_same hk
  exact ⟨e, List.mem_of_getElem? h1, h2⟩
/-- what a right report does is the same by the document's way -/
theorem rep_eq (h : OkB N cum l) (ht : 0 ≤ r.tsn ∧ r.tsn < 4294967296) (h0 : 0 ≤ sd cum r.tsn) (h1 : sd cum r.tsn ≤ (l.length : Int)) (now : Int) :
    rL2 r l = r.l2 cum now l ∧ rSums r l = r.sums cum l ∧ ∀ p, rPaths r now l p = r.paths cum now l p := by
  obtain ⟨e1, e2⟩ := rL1_eq h ht h0 h1
  have en := tell_N h ht h0 h1
  have hp : ∀ e ∈ r.l1 cum l, 0 ≤ e.path := fun e' he => by
    obtain ⟨e, hm, s⟩ := l1_mem he
    rw [s.2.1]; exact (h.path e hm).1
  have hs : ∀ e ∈ r.l1 cum l, 0 ≤ e.sent := fun e' he => by
    obtain ⟨e, hm, s⟩ := l1_mem he
    rw [s.2.2.1]; exact h.sent e hm
  have hd : ∀ e ∈ r.l1 cum l, e.data.length ≤ 70000 := fun e' he => by
    obtain ⟨e, hm, s⟩ := l1_mem he
    rw [s.2.2.2.1]; exact h.size e hm
  have hlen : (r.l1 cum l).length = l.length := by unfold Rp.l1 turnL; rw [List.length_mapIdx]
  refine ⟨?_, e2, fun p => ?_⟩
  · unfold rL2 Rp.l2
    rw [e1, en]
    exact quick_eq hp hs
  · unfold rPaths Rp.paths
    rw [e1, en, ← hlen]
    have hF : ∀ p, (ackOut now (r.newly cum l) l p).f3 = 0 := fun p => ack_f3 now p
    exact paths_eq hp hs hd (by rw [hlen]; exact h.len) hF p
theorem OkB.new (N : Nat) (hc : 0 ≤ cum ∧ cum < 4294967296) : OkB N cum [] :=
  ⟨by simp, by simp, by simp, by simp, by simp, by simp, by simp, hc⟩
theorem OkB.report (h : OkB N cum l) (ht : 0 ≤ r.tsn ∧ r.tsn < 4294967296) (h0 : 0 ≤ sd cum r.tsn) (h1 : sd cum r.tsn ≤ (l.length : Int)) (now : Int) : OkB N r.tsn ((r.l2 cum now l).drop (sd cum r.tsn).toNat) := by
  have mem : ∀ e' ∈ (r.l2 cum now l).drop (sd cum r.tsn).toNat, ∃ e ∈ l, sameE e' e := fun e' he => by
    obtain ⟨k, hk⟩ := List.getElem?_of_mem (List.mem_of_mem_drop he)
    obtain ⟨e, h1, h2⟩ := l2_same hk
    exact ⟨e, List.mem_of_getElem? h1, h2⟩
  have hlen : (r.l2 cum now l).length = l.length := by unfold Rp.l2 Rp.l1 turnL; rw [List.length_mapIdx, List.length_mapIdx]
  have hl := h.len
  have hc := h.cum
  refine ⟨?_, fun k e' hk => ?_, fun e' he => ?_, fun e' he => ?_, fun e' he => ?_, fun e' he => ?_, fun e' he => ?_, ht⟩
  · rw [List.length_drop]; omega
  · rw [List.getElem?_drop] at hk
    obtain ⟨e, h2, s⟩ := l2_same hk
    have hlt := (List.getElem?_eq_some_iff.1 h2).1
    rw [s.1, h.tsn _ e h2]
    obtain ⟨q, hq⟩ : ∃ q, q = sd cum r.tsn := ⟨_, rfl⟩
    rw [← hq] at h0 h1 hlt ⊢
    unfold sd at hq
    unfold nxt
    split at hq <;> omega
  · obtain ⟨e, hm, s⟩ := mem e' he
    rw [s.2.1]; exact h.path e hm
  · obtain ⟨e, hm, s⟩ := mem e' he
    rw [s.2.2.1]; exact h.sent e hm
  · obtain ⟨e, hm, s⟩ := mem e' he
    rw [s.2.2.2.1]; exact h.size e hm
  · obtain ⟨e, hm, s⟩ := mem e' he
    unfold byOk; rw [s.2.2.2.1]; exact h.byt e hm
  · obtain ⟨e, hm, s⟩ := mem e' he
    exact s.2.2.2.2 (h.st e hm)
theorem askE_zero {n : Int} (h : askE n path now = 0) : (0 ≤ path ∧ path < n) ∧ 0 ≤ now ∧ now ≤ 1099511627776 := by
  unfold askE at h
  split at h
  · cases h
  · split at h
    · cases h
    · omega
theorem putE_zero {n : Int} {k : Nat} (h : putE n path now e k = 0) : askE n path now = 0 ∧ 0 < e.data.length ∧ e.data.length ≤ 65536 ∧ k < 32768 := by
  unfold putE at h
  split at h
  · exact absurd h ‹_›
  · rename_i h1
    split at h
    · cases h
    · split at h
      · cases h
      · refine ⟨by omega, by omega, by omega, by omega⟩
theorem OkB.put (h : OkB N cum l) (h0 : putE (N : Int) path now e l.length = 0) (hb : byOk e) : OkB N cum (l ++ [e.put (nxt cum l.length) path now]) := by
  obtain ⟨ha, h1, h2, h3⟩ := putE_zero h0
  obtain ⟨hp, hn⟩ := askE_zero ha
  have mem : ∀ e' ∈ l ++ [e.put (nxt cum l.length) path now], e' ∈ l ∨ e' = e.put (nxt cum l.length) path now := fun e' he => by
    rcases List.mem_append.1 he with he | he
    · exact .inl he
    · exact .inr (List.mem_singleton.1 he)
  refine ⟨by simp; omega, fun k e' hk => ?_, fun e' he => ?_, fun e' he => ?_, fun e' he => ?_, fun e' he => ?_, fun e' he => ?_, h.cum⟩
  · rw [List.getElem?_append] at hk
    split at hk
    · exact h.tsn k e' hk
    · rename_i hge
      have hz : k - l.length = 0 := by
        rcases Nat.eq_zero_or_pos (k - l.length) with hz | hz
        · exact hz
        · rw [List.getElem?_eq_none (by simp; omega)] at hk; cases hk
      rw [hz] at hk
      have hk := Option.some.inj hk
      rw [← hk]
      show nxt cum l.length = _
      rw [show l.length = k by omega]
  · rcases mem e' he with he | rfl
    · exact h.path e' he
    · exact hp
  · rcases mem e' he with he | rfl
    · exact h.sent e' he
    · exact hn.1
  · rcases mem e' he with he | rfl
    · exact h.size e' he
    · show e.data.length ≤ 70000; omega
  · rcases mem e' he with he | rfl
    · exact h.byt e' he
    · exact hb
  · rcases mem e' he with he | rfl
    · exact h.st e' he
    · show (1 : Int) ≤ 1 ∧ (1 : Int) ≤ 4; omega
theorem upd1_get {q : En → Bool} {f : En → En} : ∀ {l : List En} {k : Nat} {e' : En}, (upd1 q f l)[k]? = some e' → ∃ e, l[k]? = some e ∧ (e' = e ∨ e' = f e)
  | [], k, e', h => by unfold upd1 at h; simp at h
  | x :: l, k, e', h => by
    unfold upd1 at h
    split at h
    · cases k with
      | zero => simp at h; exact ⟨x, rfl, .inr h.symm⟩
      | succ k => exact ⟨e', by simpa using h, .inl rfl⟩
    · cases k with
      | zero => simp at h; exact ⟨x, rfl, .inl h.symm⟩
      | succ k =>
        obtain ⟨e, h1, h2⟩ := upd1_get (l := l) (k := k) (by simpa using h)
        exact ⟨e, by simpa using h1, h2⟩
theorem upd1_length {q : En → Bool} {f : En → En} : ∀ (l : List En), (upd1 q f l).length = l.length
  | [] => rfl
  | x :: l => by
    unfold upd1
    split
    · rfl
    · rw [List.length_cons, List.length_cons, upd1_length l]
theorem OkB.again (h : OkB N cum l) (ha : askE (N : Int) path now = 0) : OkB N cum (upd1 mrkB (En.again path now) l) := by
  obtain ⟨hp, hn⟩ := askE_zero ha
  have mem : ∀ e' ∈ upd1 mrkB (En.again path now) l, ∃ e ∈ l, (e' = e ∨ e' = e.again path now) := fun e' he => by
    obtain ⟨k, hk⟩ := List.getElem?_of_mem he
    obtain ⟨e, h1, h2⟩ := upd1_get hk
    exact ⟨e, List.mem_of_getElem? h1, h2⟩
  refine ⟨by rw [upd1_length]; exact h.len, fun k e' hk => ?_, fun e' he => ?_, fun e' he => ?_, fun e' he => ?_, fun e' he => ?_, fun e' he => ?_, h.cum⟩
  · obtain ⟨e, h1, h2⟩ := upd1_get hk
    have := h.tsn k e h1
    rcases h2 with rfl | rfl
    · exact this
    · exact this
  · obtain ⟨e, hm, rfl | rfl⟩ := mem e' he
    · exact h.path _ hm
    · exact hp
  · obtain ⟨e, hm, rfl | rfl⟩ := mem e' he
    · exact h.sent _ hm
    · exact hn.1
  · obtain ⟨e, hm, rfl | rfl⟩ := mem e' he
    · exact h.size _ hm
    · exact h.size e hm
  · obtain ⟨e, hm, rfl | rfl⟩ := mem e' he
    · exact h.byt _ hm
    · exact h.byt e hm
  · obtain ⟨e, hm, rfl | rfl⟩ := mem e' he
    · exact h.st _ hm
    · show (1 : Int) ≤ 1 ∧ (1 : Int) ≤ 4; omega
theorem OkB.giveUp (h : OkB N cum l) (path : Int) : OkB N cum (giveUp path l) := by
  have mem : ∀ e' ∈ Ytmliokbonkndaaa.giveUp path l, ∃ e ∈ l, (e' = e ∨ e' = e.mk') := fun e' he => by
    obtain ⟨e, hm, rfl⟩ := List.mem_map.1 he
    refine ⟨e, hm, ?_⟩
    split
    · exact .inr rfl
    · exact .inl rfl
  refine ⟨by unfold Ytmliokbonkndaaa.giveUp; rw [List.length_map]; exact h.len, fun k e' hk => ?_, fun e' he => ?_, fun e' he => ?_, fun e' he => ?_, fun e' he => ?_, fun e' he => ?_, h.cum⟩
  · unfold Ytmliokbonkndaaa.giveUp at hk
    rw [List.getElem?_map] at hk
    cases hl : l[k]? with
    | none => rw [hl] at hk; cases hk
    | some x =>
      rw [hl] at hk
      have hk := Option.some.inj hk
      have := h.tsn k x hl
      rw [← hk]
      show (if onB path x = true then x.mk' else x).tsn = _
      split
      · exact this
      · exact this
  · obtain ⟨e, hm, rfl | rfl⟩ := mem e' he
    · exact h.path _ hm
    · exact h.path e hm
  · obtain ⟨e, hm, rfl | rfl⟩ := mem e' he
    · exact h.sent _ hm
    · exact h.sent e hm
  · obtain ⟨e, hm, rfl | rfl⟩ := mem e' he
    · exact h.size _ hm
    · exact h.size e hm
  · obtain ⟨e, hm, rfl | rfl⟩ := mem e' he
    · exact h.byt _ hm
    · exact h.byt e hm
  · obtain ⟨e, hm, rfl | rfl⟩ := mem e' he
    · exact h.st _ hm
    · show (1 : Int) ≤ 2 ∧ (2 : Int) ≤ 4; omega
/-- all that flies, path by path -/
theorem tot_eq (hp : ∀ e ∈ l, 0 ≤ e.path ∧ e.path < (N : Int)) : tot l N = szs flyB l := by
  have key : ∀ (M : Nat) (l : List En), tot l M = szs (fun e => flyB e && decide (0 ≤ e.path ∧ e.path < (M : Int))) l := by
    intro M
    induction M with
    | zero =>
      intro l
      show 0 = _
      unfold szs
      rw [List.filter_eq_nil_iff.2]
      · rfl
      · intro e _
        have : ¬ (0 ≤ e.path ∧ e.path < ((0 : Nat) : Int)) := by omega
        simp [this]
    | succ M ih =>
      intro l
      show tot l M + szs (onB (M : Int)) l = _
      rw [ih]
      induction l with
      | nil => rfl
      | cons e l ih2 =>
        rw [szs_cons, szs_cons, szs_cons, ← ih2]
        unfold onB flyB
        by_cases h1 : e.st = 1
        · by_cases h2 : e.path = (M : Int)
          · have a1 : ¬ (0 ≤ e.path ∧ e.path < (M : Int)) := by omega
            have a2 : 0 ≤ e.path ∧ e.path < ((M + 1 : Nat) : Int) := by omega
            rw [decide_eq_false a1, decide_eq_true a2]
            simp [h1, h2]
            omega
          · by_cases a1 : 0 ≤ e.path ∧ e.path < (M : Int)
            · have a2 : 0 ≤ e.path ∧ e.path < ((M + 1 : Nat) : Int) := by omega
              rw [decide_eq_true a1, decide_eq_true a2]
              simp [h1, h2]
              omega
            · have a2 : ¬ (0 ≤ e.path ∧ e.path < ((M + 1 : Nat) : Int)) := by omega
              rw [decide_eq_false a1, decide_eq_false a2]
              simp [h2]
        · simp [h1]
  rw [key]
  unfold szs
  congr 2
  apply List.filter_congr
  intro e he
  rw [decide_eq_true (hp e he), Bool.and_true]
end
end Go.Proofs.Ytmliokbonkndaaa
