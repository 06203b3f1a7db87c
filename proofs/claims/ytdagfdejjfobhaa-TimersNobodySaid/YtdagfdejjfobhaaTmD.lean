/-
  Push, Pop, Init; a table's plain state.
-/
import Derived.Test.YtdagfdejjfobhaaTmC
namespace Go.Proofs.Ytdagfdejjfobhaa
open Go Go.Sh Go.Tm
section
variable {W w : World} {L M : List HP} {tb lc m n nn i j : Nat} {la : Option Addr} {h h0 : Nat → Du} {last : Int}
theorem c24 (hs : Hs W (hpL tb la lc m n h last ++ L) w) (hn : n + 1 ≤ 1000000) (hh : Hp n h) (d : Du) :
    Calls Try.prog 24 #[hI tb, .iface 30 (.agg #[.int .i64 d.1, .int .i64 d.2])] w (rt fun v w' => v = .tuple #[] ∧ ∃ la lc h', Hp (n + 1) h' ∧ (∀ x, Mem (n + 1) h' x ↔ Mem n h x ∨ x = d) ∧ Hs W (hpL tb la lc m (n + 1) h' last ++ L) w') := by
  refine F24_ok ?_
  unfold F24
  refine ⟨_, _, _, m_push _ _ _, cl (c79 hs (by omega) d) ?_⟩
  rintro _ w1 ⟨rfl, la1, lc1, h1⟩
  refine ⟨rfl, ?_⟩
  refine len_k h1 ?_
  have e1 : IntKind.wrap .i64 (((n + 1 : Nat) : Int) - 1) = (n : Int) := by rw [wrap_i64 (by omega) (by omega)]; omega
  rw [e1]
  have hu : HpUp (n + 1) (fun k => if k = n then d else h k) n := HpUp.start (hh.congr fun k hk => if_neg (by omega))
  refine cl (c38 (by omega) (by omega) hu h1) ?_
  rintro _ w2 ⟨rfl, h', a, b, h2⟩
  refine ⟨rfl, rfl, la1, lc1, h', a, fun x => (b x).trans ⟨?_, ?_⟩, h2⟩
  · rintro ⟨k, hk, rfl⟩
    by_cases hkn : k = n
    · exact .inr (if_pos hkn)
    · exact .inl ⟨k, by omega, (if_neg hkn).symm⟩
  · rintro (⟨k, hk, rfl⟩ | rfl)
    · exact ⟨k, by omega, if_neg (by omega)⟩
    · exact ⟨n, by omega, if_pos rfl⟩
theorem c29 (hs : Hs W (hpL tb la lc m (n + 1) h last ++ L) w) (hn : n + 1 ≤ 1000000) (hh : Hp (n + 1) h) :
    Calls Try.prog 29 #[hI tb] w (rt fun v w' => v = .iface 30 (.agg #[.int .i64 (h 0).1, .int .i64 (h 0).2]) ∧ ∃ h', Hp n h' ∧ (∀ x, Mem (n + 1) h x → x ≠ h 0 → Mem n h' x) ∧ Hs W (hpL tb la lc m n h' last ++ L) w') := by
  refine F29_ok ?_
  unfold F29
  refine len_k hs ?_
  have e1 : IntKind.wrap .i64 (((n + 1 : Nat) : Int) - 1) = (n : Int) := by rw [wrap_i64 (by omega) (by omega)]; omega
  rw [e1]
  refine swap_k (i := 0) (j := n) hs (by omega) (by omega) fun w1 h1 => ?_
  refine cl (c40 (i := 0) (nn := n) (by omega) hn (by omega) (HpDn.start hh) h1) ?_
  rintro _ w2 ⟨b, h', rfl, a1, a2, a3, h2⟩
  refine ⟨_, rfl, _, _, _, m_pop _ _, cl (c78 h2 (by omega)) ?_⟩
  rintro _ w3 ⟨rfl, h3⟩
  refine ⟨_, rfl, ?_, h', a1, fun x hx hne => (a2 x).2 (mem_pop hx hne), h3⟩
  rw [a3 n (Nat.le_refl _), sw_j]
theorem c39 (hs : Hs W (hpL tb la lc m n h last ++ L) w) (hn : n ≤ 1000000) (hh : Hp n h) :
    Calls Try.prog 39 #[hI tb] w (rt fun v w' => v = .tuple #[] ∧ Hs W (hpL tb la lc m n h last ++ L) w') := by
  refine F39_ok ?_
  unfold F39
  refine len_k hs ?_
  have loop : ∀ (K0 : World → Prop), (∀ w', Hs W (hpL tb la lc m n h last ++ L) w' → K0 w') → ∀ (i : Nat) (w : World) (k : Nat), i ≤ 1000000 → Hs W (hpL tb la lc m n h last ++ L) w → i < k → F39_1 K0 k (hI tb) (.int .i64 (n : Int)) (.int .i64 ((i : Int) - 1)) w := by
    intro K0 hK0 i
    induction i with
    | zero =>
      intro w k _ hs hk
      obtain ⟨k, rfl⟩ : ∃ j, k = j + 1 := ⟨k - 1, by omega⟩
      show F39_1B _ _ _ _ _ _
      unfold F39_1B
      simp only [rdI_mk]
      rw [br_dec]
      exact ⟨fun h => by exfalso; omega, fun _ => hK0 w hs⟩
    | succ i ih =>
      intro w k hi hs hk
      obtain ⟨k, rfl⟩ : ∃ j, k = j + 1 := ⟨k - 1, by omega⟩
      show F39_1B _ _ _ _ _ _
      unfold F39_1B
      simp only [rdI_mk]
      rw [br_dec]
      refine ⟨fun _ => ?_, fun h => by exfalso; omega⟩
      have e1 : ((i + 1 : Nat) : Int) - 1 = (i : Int) := by omega
      rw [e1]
      refine cl (c40_still (i := i) (nn := n) (Nat.le_refl _) hn (by omega) hh hs) ?_
      rintro _ w1 ⟨b, rfl, h1⟩
      refine ⟨_, rfl, ?_⟩
      rw [wrap_i64 (by omega) (by omega)]
      exact ih w1 k (by omega) h1 (by omega)
  have e1 : IntKind.wrap .i64 (IntKind.wrap .i64 (Int.tdiv (n : Int) 2) - 1) = ((n / 2 : Nat) : Int) - 1 := by
    have : Int.tdiv (n : Int) 2 = ((n / 2 : Nat) : Int) := rfl
    rw [this, wrap_i64 (n := ((n / 2 : Nat) : Int)) (by omega) (by omega), wrap_i64 (by omega) (by omega)]
  rw [e1]
  exact ⟨n / 2 + 1, loop _ (fun w' h' _ => ⟨rfl, h'⟩) (n / 2) w _ (by omega) hs (by omega)⟩
end
/-! plain -/
theorem mval_iff {l : List (Int × Int)} (hn : (l.map Prod.fst).Nodup) {k t : Int} : mval l k = some t ↔ (k, t) ∈ l := by
  induction l with
  | nil => simp [mval]
  | cons p l ih =>
    simp only [List.map_cons, List.nodup_cons] at hn
    simp only [mval, List.mem_cons]
    by_cases hk : k = p.1
    · rw [if_pos hk]
      constructor
      · intro h
        refine .inl ?_
        obtain ⟨p1, p2⟩ := p
        simp at h hk
        rw [h, hk]
      · rintro (h | h)
        · rw [← h]
        · exfalso
          exact hn.1 (List.mem_map.2 ⟨_, h, hk⟩)
    · rw [if_neg hk, ih hn.2]
      constructor
      · exact .inr
      · rintro (h | h)
        · exfalso; exact hk (by rw [← h])
        · exact h
def isT (t : Int) : Prop := 0 ≤ t ∧ t ≤ 1099511627776
def isI (k : Int) : Prop := 0 ≤ k ∧ k < 4096
instance (t : Int) : Decidable (isT t) := inferInstanceAs (Decidable (_ ∧ _))
instance (t : Int) : Decidable (isI t) := inferInstanceAs (Decidable (_ ∧ _))
/-- a list of timers, in order -/
structure LI (l : List Du) : Prop where
  srt : l.Pairwise lt
  ids : (l.map Prod.fst).Nodup
  rng : ∀ d ∈ l, isI d.1 ∧ isT d.2
theorem nodup_few : ∀ (n : Nat) (l : List Int), l.Nodup → (∀ x ∈ l, 0 ≤ x ∧ x < (n : Int)) → l.length ≤ n
  | 0, l, _, h => by
    cases l with
    | nil => exact Nat.le_refl _
    | cons x l => have := h x (by simp); omega
  | n + 1, l, hn, h => by
    have h1 := nodup_few n (l.filter (· ≠ (n : Int))) (hn.filter _) fun x hx => by
      have := List.mem_filter.1 hx
      have h2 := h x this.1
      have h3 : x ≠ (n : Int) := by simpa using this.2
      omega
    have h2 : l.length ≤ (l.filter (· ≠ (n : Int))).length + 1 := by
      clear h1 h
      induction l with
      | nil => exact Nat.zero_le _
      | cons x l ih =>
        simp only [List.nodup_cons] at hn
        by_cases hx : x = (n : Int)
        · have : (x :: l).filter (· ≠ (n : Int)) = l := by
            rw [List.filter_cons, if_neg (by simp [hx])]
            refine List.filter_eq_self.2 fun y hy => ?_
            have : y ≠ (n : Int) := fun e => hn.1 (by rw [hx, ← e]; exact hy)
            simpa using this
          rw [this]; exact Nat.le_refl _
        · rw [List.filter_cons, if_pos (by simp [hx])]
          have := ih hn.2
          simp only [List.length_cons]
          omega
    omega
theorem LI.few {l : List Du} (h : LI l) : l.length ≤ 4096 := by
  have := nodup_few 4096 (l.map Prod.fst) h.ids fun x hx => by
    obtain ⟨d, hd, rfl⟩ := List.mem_map.1 hx
    exact (h.rng d hd).1
  simpa using this
theorem LI.nil : LI [] := ⟨by simp, by simp, by simp⟩
/-- a table's plain state: its heap, its map, what it stands for -/
structure TI (n : Nat) (h : Nat → Du) (f : Int → Option Int) (l : List Du) : Prop where
  li : LI l
  hp : Hp n h
  has : ∀ d ∈ l, Mem n h d
  few : n ≤ 16384
  map : ∀ k, f k = mval l k
theorem TI.top {n : Nat} {h : Nat → Du} {f : Int → Option Int} {l : List Du} (t : TI n h f l) (hf : f (h 0).1 = some (h 0).2) : l.head? = some (h 0) := by
  rw [t.map, mval_iff t.li.ids] at hf
  have hs := t.li.srt
  cases l with
  | nil => cases hf
  | cons d r =>
    rcases List.mem_cons.1 hf with e | e
    · show some d = some (h 0)
      rw [← e]
    · exfalso
      have h1 := (List.pairwise_cons.1 hs).1 _ e
      obtain ⟨k, hk, hkd⟩ := t.has d (by simp)
      have h2 := t.hp.top k hk
      rw [hkd] at h2
      exact h2 h1
theorem TI.pop {n : Nat} {h h' : Nat → Du} {f : Int → Option Int} {l : List Du} (t : TI (n + 1) h f l) (hf : f (h 0).1 ≠ some (h 0).2) (hp : Hp n h') (hm : ∀ x, Mem (n + 1) h x → x ≠ h 0 → Mem n h' x) : TI n h' f l := by
  refine ⟨t.li, hp, fun d hd => hm d (t.has d hd) fun e => ?_, by have := t.few; omega, t.map⟩
  refine hf ?_
  rw [t.map, mval_iff t.li.ids]
  rw [← e]; exact hd
theorem TI.nil_of {h : Nat → Du} {f : Int → Option Int} {l : List Du} (t : TI 0 h f l) : l = [] := by
  cases l with
  | nil => rfl
  | cons d r =>
    obtain ⟨k, hk, _⟩ := t.has d (by simp)
    omega
theorem updF_mval {l l' : List Du} {k : Int} {o : Option Int} {f : Int → Option Int} (hf : ∀ k, f k = mval l k) (h : ∀ j, mval l' j = if j = k then o else mval l j) : ∀ j, updF f k o j = mval l' j := fun j => by
  unfold updF
  rw [h j, hf j]
/-- the first one goes -/
theorem TI.due {n : Nat} {h h' : Nat → Du} {f : Int → Option Int} {d : Du} {l : List Du} (t : TI (n + 1) h f (d :: l)) (hd : h 0 = d) (hp : Hp n h') (hm : ∀ x, Mem (n + 1) h x → x ≠ h 0 → Mem n h' x) : TI n h' (updF f d.1 none) l := by
  have hi := t.li.ids
  simp only [List.map_cons, List.nodup_cons] at hi
  refine ⟨⟨(List.pairwise_cons.1 t.li.srt).2, hi.2, fun x hx => t.li.rng x (by simp [hx])⟩, hp, fun x hx => hm x (t.has x (by simp [hx])) fun e => ?_, by have := t.few; omega, updF_mval t.map fun j => ?_⟩
  · rw [hd] at e
    exact hi.1 (List.mem_map.2 ⟨x, hx, by rw [e]⟩)
  · simp only [mval]
    by_cases hj : j = d.1
    · rw [if_pos hj, hj]
      cases hm : mval l d.1 with
      | none => rfl
      | some t' =>
        exfalso
        have := (mval_iff hi.2).1 hm
        exact hi.1 (List.mem_map.2 ⟨_, this, rfl⟩)
    · rw [if_neg hj, if_neg hj]
end Go.Proofs.Ytdagfdejjfobhaa
