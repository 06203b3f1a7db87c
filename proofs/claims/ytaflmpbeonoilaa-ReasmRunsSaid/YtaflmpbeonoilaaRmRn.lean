/-
  The program's table and the document's, call by call.
-/
import Derived.Test.YtaflmpbeonoilaaRmBb
namespace Go.Proofs.Ytaflmpbeonoilaa
open Go Go.Sh Go.RowKit
/-- a world of two blocks -/
def duo (w : World) (b : Nat) (o : Obj) (b' : Nat) (o' : Obj) : World := { w with heap := Array.ofFn (n := max b b' + 1) fun i => if i.val = b then o else if i.val = b' then o' else .cells #[] 0 (0, 0) }
theorem duo_get (w : World) (b : Nat) (o : Obj) (b' : Nat) (o' : Obj) (k : Nat) : (duo w b o b' o').heap[k]? = if k < max b b' + 1 then some (if k = b then o else if k = b' then o' else .cells #[] 0 (0, 0)) else none := by
  unfold duo
  simp only [Array.getElem?_ofFn]
  split <;> rfl
theorem duo_1 (w : World) (b : Nat) (o : Obj) (b' : Nat) (o' : Obj) : (duo w b o b' o').heap[b]? = some o := by
  rw [duo_get, if_pos (by omega), if_pos rfl]
theorem duo_2 (w : World) {b b' : Nat} (o o' : Obj) (h : b ≠ b') : (duo w b o b' o').heap[b']? = some o' := by
  rw [duo_get, if_pos (by omega), if_neg (fun e => h e.symm), if_pos rfl]
theorem duo_other {w : World} {b b' k : Nat} {o o' o2 : Obj} (h : (duo w b o b' o').heap[k]? = some o2) (h1 : k ≠ b) (h2 : k ≠ b') : o2 = .cells #[] 0 (0, 0) := by
  rw [duo_get, if_neg h1, if_neg h2] at h
  by_cases hk : k < max b b' + 1
  · rw [if_pos hk] at h; exact (Option.some.inj h).symm
  · rw [if_neg hk] at h; cases h
theorem Pres.duo {w w' : World} {b b' : Nat} {o o' : Obj} (h : w'.heap[b]? = some o) (h' : w'.heap[b']? = some o') (hne : b ≠ b') : Pres (duo w b o b' o') w' := by
  have hlt := lt_of_blk h
  have hlt' := lt_of_blk h'
  refine ⟨?_, fun a v e => ?_, fun r es c e => ?_⟩
  · show (Array.ofFn _).size ≤ _
    simp; omega
  · by_cases ha : a.block = b
    · rw [← e]
      refine World.cell?_of_block ?_
      rw [ha, duo_1, h]
    · by_cases ha' : a.block = b'
      · rw [← e]
        refine World.cell?_of_block ?_
        rw [ha', duo_2 w o o' hne, h']
      · exfalso
        unfold World.cell? at e
        cases hk : (Ytaflmpbeonoilaa.duo w b o b' o').heap[a.block]? with
        | none => rw [hk] at e; cases e
        | some o2 =>
          rw [hk, duo_other hk ha ha'] at e
          simp at e
  · by_cases hr : r = b
    · subst hr; rw [duo_1] at e; rw [h]; exact e
    · by_cases hr' : r = b'
      · subst hr'; rw [duo_2 w o o' hne] at e; rw [h']; exact e
      · exfalso
        have := duo_other e hr hr'
        cases this
theorem at_blk {w : World} {b : Nat} {cs : Array Value} {T : TypeId} {z : Nat × Nat} (h : w.heap[b]? = some (.cells cs T z)) : At w ⟨b, 0, none⟩ cs.toList := fun j v hj => by
  rw [add_mk, Nat.zero_add, cell_at h]
  simpa using hj
/-- all bytes are bytes -/
structure ByS (s : St) : Prop where
  L : ∀ x ∈ s.L, ∀ v ∈ x.b, 0 ≤ v ∧ v < 256
  M : ∀ m ∈ s.M, ∀ v ∈ m.d, 0 ≤ v ∧ v < 256
section
variable {s : St} {c : Ch} {row : List Int}
theorem ByS.tell (h : ByS s) : ByS (tellS s row) := by
  refine ⟨fun x hx => h.L x (List.mem_filter.1 hx).1, fun m hm => ?_⟩
  rcases List.mem_append.1 hm with hm | hm
  · exact h.M m hm
  · rw [List.mem_singleton] at hm
    subst hm
    intro v hv
    obtain ⟨t, _, hv⟩ := List.mem_flatMap.1 hv
    unfold bodyOf at hv
    cases hx : look s.L t with
    | none => rw [hx] at hv; cases hv
    | some x =>
      rw [hx] at hv
      exact h.L x (look_some hx).1 v hv
theorem ByS.turn : ∀ (n : Nat) {s : St} {st : Int}, ByS s → ByS (turnS n s st)
  | 0, _, _, h => h
  | n + 1, s, st, h => by
    unfold turnS
    split
    · exact h
    · rename_i i _
      have h2 : ByS (outS s st i) := ⟨h.L, h.M⟩
      exact ByS.turn n h2.tell
theorem ByS.put (h : ByS s) (hc : ∀ v ∈ c.b, 0 ≤ v ∧ v < 256) : ByS (putT s c) := by
  have h1 : ByS (put1 s c) := ⟨fun x hx => by
    rcases List.mem_append.1 hx with hx | hx
    · exact h.L x hx
    · rw [List.mem_singleton] at hx; subst hx; exact hc, h.M⟩
  unfold putT putS
  split
  · split
    · split
      · exact h1.tell
      · have h2 : ByS (put2 s c) := ⟨h1.L, h1.M⟩
        exact h2.turn _
    · exact h1
  · exact h
theorem ByS.take (h : ByS s) : ByS (takeS s) := ⟨h.L, fun m hm => h.M m (List.mem_of_mem_tail hm)⟩
theorem ByS.drop (h : ByS s) (t : Int) : ByS (dropT s t) := by
  unfold dropT
  split
  · exact ⟨fun x hx => h.L x (List.mem_filter.1 hx).1, h.M⟩
  · exact h
theorem ByS.move (h : ByS s) (t : Int) : ByS (moveS s t) := ⟨h.L, h.M⟩
theorem heads_rng (h : OkB s) : ∀ f ∈ heads s, 0 ≤ f ∧ f < 4294967296 := by
  intro f hf
  obtain ⟨r, hr, rfl⟩ := List.mem_map.1 hf
  obtain ⟨g, n, hw⟩ := h.whole r hr
  have : r.headD 0 = g := by rw [hw.row]; exact numsN_head hw.rng
  rw [this]; exact hw.rng
def stays (s : St) (t f : Int) : Bool := s.wh.any fun r => r.headD 0 == f && !r.contains t
theorem head_one (h : OkA s) {a b : List Int} (ha : a ∈ s.wh) (hb : b ∈ s.wh) (e : a.headD 0 = b.headD 0) : a = b := by
  have hn := heads_nodup h
  exact nodup_inj hn ha hb e
theorem stays_eq (h : OkA s) {t : Int} {r : List Int} (hr : r ∈ s.wh) : stays s t (r.headD 0) = !r.contains t := by
  unfold stays
  cases hc : r.contains t with
  | true =>
    rw [Bool.not_true, List.any_eq_false]
    intro r' hr'
    by_cases e : r'.headD 0 = r.headD 0
    · have := head_one h hr' hr e
      subst this
      rw [hc]; simp
    · have : (r'.headD 0 == r.headD 0) = false := by simpa using e
      rw [this]; simp
  | false =>
    rw [Bool.not_false, List.any_eq_true]
    exact ⟨r, hr, by rw [hc]; simp⟩
theorem heads_drop (h : OkA s) (t : Int) : (heads s).filter (stays s t) = heads (dropS s t) := by
  show (s.wh.map _).filter _ = (s.wh.filter _).map _
  rw [List.filter_map]
  congr 1
  exact List.filter_congr fun r hr => stays_eq h hr
theorem stays_yes (h : OkB s) {t f : Int} (hf : f ∈ heads s) (hs : stays s t f = true) : ∃ n, Wh (dropS s t).L (numsN f n) f n := by
  obtain ⟨r, hr, rfl⟩ := List.mem_map.1 hf
  rw [stays_eq h.toOkA hr] at hs
  obtain ⟨g, n, hw⟩ := h.whole r hr
  have hg : r.headD 0 = g := by rw [hw.row]; exact numsN_head hw.rng
  rw [hg]
  refine ⟨n, ?_⟩
  rw [← hw.row]
  refine wh_mono hw fun u hu => look_filter fun x hx => ?_
  have : t ∉ r := by simpa using hs
  have : x.tsn ≠ t := fun e => this (by rw [← e, hx]; exact hu)
  simpa using this
theorem stays_no (h : OkB s) {t f : Int} (hf : f ∈ heads s) (hs : stays s t f = false) : ∀ n, ¬ Wh (dropS s t).L (numsN f n) f n := by
  intro n hw
  obtain ⟨r, hr, rfl⟩ := List.mem_map.1 hf
  rw [stays_eq h.toOkA hr] at hs
  have hct : t ∈ r := by simpa using hs
  obtain ⟨g, k, hwr⟩ := h.whole r hr
  have hg : r.headD 0 = g := by rw [hwr.row]; exact numsN_head hwr.rng
  have hheld := wh_held hw
  have hne : ∀ u ∈ numsN (r.headD 0) n, u ≠ t := fun u hu e => by
    obtain ⟨x, hx⟩ := hheld u hu
    obtain ⟨h1, h2⟩ := look_some hx
    have := (List.mem_filter.1 h1).2
    rw [h2, e] at this
    simp at this
  have hw2 : Wh s.L (numsN (r.headD 0) n) (r.headD 0) n := wh_mono hw fun u hu => (look_filter (L := s.L) (t := u) (p := fun y => y.tsn != t) fun x hx => by
    have := hne u hu
    simp [hx, this]).symm
  rw [hg] at hw2 hne
  have hm : g ∈ numsN g n := mem_numsN.2 ⟨0, Nat.zero_le _, by have := hw2.rng; omega⟩
  have hm2 : g ∈ r := by rw [hwr.row]; exact mem_numsN.2 ⟨0, Nat.zero_le _, by have := hw2.rng; omega⟩
  obtain ⟨_, e⟩ := wh_one hw2 hwr hm hm2
  subst e
  rw [hwr.row] at hct
  exact hne t hct rfl
end
section
variable {W w : World} {L M Z : List HP} {rb lc tb : Nat} {la : Option Addr} {s : St}
/-- Drop, of the document -/
theorem c41s {t : Int} (hok : OkB s) (h : Hs W (refP rb s (heads s) :: Z) w) : Calls Try.prog 41 #[.pointer (some ⟨rb, 0, none⟩), .int .u32 t] w (rt fun v w' => v = .tuple #[.bool (look s.L t).isSome, .int .i64 0] ∧ Hs W (refP rb (dropT s t) (heads (dropT s t)) :: Z) w') := by
  obtain ⟨d, hi, h⟩ := ref_open h
  have hcnt := hok.cnt
  have hfew := rows_few hok.toOkA
  cases hx : look s.L t with
  | none =>
    refine rt_mono (c41_no hi hx (by omega) h) ?_
    rintro v w' ⟨rfl, h'⟩
    refine ⟨rfl, ?_⟩
    have : dropT s t = s := by unfold dropT; rw [hx]; rfl
    rw [this]
    exact ref_shut hi h'
  | some x =>
    refine rt_mono (c41_ok (p := stays s t) hi hx (by omega) (by rw [heads_len]; omega) (heads_rng hok) (fun f hf hp => stays_yes hok hf hp) (fun f hf hp => stays_no hok hf hp) h) ?_
    rintro v w' ⟨rfl, d', hi', h'⟩
    refine ⟨rfl, ?_⟩
    have : dropT s t = dropS s t := by unfold dropT; rw [hx]; rfl
    rw [this]
    rw [heads_drop hok.toOkA] at h'
    exact ref_shut hi' h'
theorem c42s {cum : Int} (hc : 0 ≤ cum ∧ cum < 4294967296) (hok : OkB s) (h : Hs W (refP rb s (heads s) :: Z) w) : Calls Try.prog 42 #[.pointer (some ⟨rb, 0, none⟩), .int .u32 cum] w (rt fun v w' => v = .int .i64 0 ∧ Hs W (refP rb (moveS s cum) (heads (moveS s cum)) :: Z) w') := by
  obtain ⟨d, hi, h⟩ := ref_open h
  have hcnt := hok.cnt
  refine rt_mono (c42 hc hi hok.frng (by omega) h) ?_
  rintro v w' ⟨rfl, d', hi', h'⟩
  exact ⟨rfl, ref_shut hi' h'⟩
theorem c39a (hok : OkB s) (h : Hs W (refP rb s (heads s) :: Z) w) : Calls Try.prog 39 #[.pointer (some ⟨rb, 0, none⟩)] w (rt fun v w' => ∃ (r : R38) (a : Option Addr) (c : Nat), v = .tuple #[r.v, .bool (s.M.head?.isSome)] ∧ (match s.M.head? with | some m => r = m.rc a c ∧ Hs W (refP rb (takeS s) (heads (takeS s)) :: slP 5 1 a m.d.length c (inV .u8 m.d) :: Z) w' | none => r = R38.z ∧ Hs W (refP rb (takeS s) (heads (takeS s)) :: Z) w')) := by
  obtain ⟨d, hi, h⟩ := ref_open h
  have hml := ms_len hok
  cases hM : s.M with
  | nil =>
    refine rt_mono (c39_none hi hM h) ?_
    rintro v w' ⟨rfl, h'⟩
    have : takeS s = s := by unfold takeS; rw [hM]; cases s; simp_all
    refine ⟨R38.z, none, 0, rfl, rfl, ?_⟩
    rw [this]
    exact ref_shut hi h'
  | cons m r =>
    refine rt_mono (c39 hi hM (by omega) h) ?_
    rintro v w' ⟨a, c, rfl, d', hi', h'⟩
    refine ⟨_, a, c, rfl, rfl, ?_⟩
    exact ref_shut hi' (L := slP 5 1 a m.d.length c (inV .u8 m.d) :: Z) (h'.behind (L := refL rb d' (takeS s) (heads s)))
end
end Go.Proofs.Ytaflmpbeonoilaa
