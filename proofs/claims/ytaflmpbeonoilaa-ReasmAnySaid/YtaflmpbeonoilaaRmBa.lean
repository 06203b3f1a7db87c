/-
  The table as a whole: each call, over its plain state.
-/
import Derived.Test.YtaflmpbeonoilaaRmZ
import Derived.Test.YtaflmpbeonoilaaRmU
namespace Go.Proofs.Ytaflmpbeonoilaa
open Go Go.Sh Go.RowKit
section
variable {W w : World} {L M Z : List HP} {tb mc mf : Nat} {hd : Int} {d : TD} {s : St} {c : Ch}
def takeS (s : St) : St := { s with M := s.M.tail }
def dropT (s : St) (t : Int) : St := if (look s.L t).isSome = true then dropS s t else s
theorem szL_filter (p : Ch → Bool) : ∀ (L : List Ch), szL (L.filter p) ≤ szL L
  | [] => Nat.le_refl _
  | x :: L => by
    have := szL_filter p L
    unfold szL at *
    rw [List.filter_cons]
    split
    · simp only [List.map_cons, List.sum_cons]; omega
    · simp only [List.map_cons, List.sum_cons]; omega
theorem drop_ok (h : OkB s) (t : Int) : OkB (dropS s t) := by
  have hkk : ∀ u, u ∈ keys (dropS s t).L ↔ u ∈ keys s.L ∧ u ≠ t := by
    intro u
    show u ∈ (s.L.filter _).map _ ↔ _
    simp only [List.mem_map, List.mem_filter, bne_iff_ne, ne_eq]
    constructor
    · rintro ⟨x, ⟨h1, h2⟩, rfl⟩; exact ⟨⟨x, h1, rfl⟩, h2⟩
    · rintro ⟨⟨x, h1, rfl⟩, h2⟩; exact ⟨x, ⟨h1, h2⟩, rfl⟩
  have hr : ∀ r ∈ (dropS s t).wh, r ∈ s.wh ∧ t ∉ r := by
    intro r hr
    obtain ⟨h1, h2⟩ := List.mem_filter.1 hr
    exact ⟨h1, by simpa using h2⟩
  refine ⟨⟨keys_filter_nodup h.key _, fun x hx => h.rng x (List.mem_filter.1 hx).1, h.fix, fun u hu hk => h.fkey u hu ((hkk u).1 hk).1, ?_, ?_, h.dis.sublist List.filter_sublist, h.mne, ?_⟩, h.frng, ?_⟩
  · have := List.length_filter_le (fun y : Ch => y.tsn != t) s.L
    have := h.cnt
    show (s.L.filter _).length + s.F.length ≤ _
    omega
  · intro r hrr
    obtain ⟨q1, q2⟩ := hr r hrr
    obtain ⟨h1, h2, h3⟩ := h.rows r q1
    exact ⟨h1, h2, fun u hu => (hkk u).2 ⟨h3 u hu, fun e => q2 (e ▸ hu)⟩⟩
  · have : szL (s.L.filter fun y => y.tsn != t) ≤ szL s.L := szL_filter _ _
    have := h.tot
    unfold Go.Proofs.Ytaflmpbeonoilaa.tot at *
    show szL (s.L.filter _) + szM s.M ≤ _
    omega
  · intro r hrr
    obtain ⟨q1, q2⟩ := hr r hrr
    obtain ⟨f, n, hw⟩ := h.whole r q1
    refine ⟨f, n, wh_mono hw fun u hu => look_filter fun x hx => ?_⟩
    have : x.tsn ≠ t := fun e => q2 (by rw [← e, hx]; exact hu)
    simpa using this
theorem tot_drop (h : OkB s) {t : Int} {x : Ch} (hx : look s.L t = some x) : tot s = tot (dropS s t) + x.b.length := by
  obtain ⟨h1, h2⟩ := look_some hx
  have := szL_del h.key h1
  rw [h2] at this
  unfold tot dropS
  simp only
  omega
theorem dropT_ok (h : OkB s) (t : Int) : OkB (dropT s t) := by
  unfold dropT
  split
  · exact drop_ok h t
  · exact h
theorem dropT_tot (h : OkB s) (t : Int) : tot (dropT s t) ≤ tot s := by
  unfold dropT
  split
  · rename_i hs
    obtain ⟨x, hx⟩ := Option.isSome_iff_exists.1 hs
    have := tot_drop h hx
    omega
  · exact Nat.le_refl _
theorem move_ok (h : OkB s) (cum : Int) : OkB (moveS s cum) := by
  have hs : ∀ t ∈ (moveS s cum).F, t ∈ s.F := fun t ht => (List.mem_filter.1 ht).1
  refine ⟨⟨h.key, h.rng, h.fix.sublist List.filter_sublist, fun t ht => h.fkey t (hs t ht), ?_, h.rows, h.dis, h.mne, h.tot⟩, fun t ht => h.frng t (hs t ht), h.whole⟩
  have := List.length_filter_le (fun t => decide (0 < dif cum t)) s.F
  have := h.cnt
  show s.L.length + (s.F.filter _).length ≤ _
  omega
theorem move_tot (cum : Int) : tot (moveS s cum) = tot s := rfl
theorem takeS_ok (h : OkB s) : OkB (takeS s) := by
  cases hM : s.M with
  | nil =>
    have : takeS s = s := by unfold takeS; rw [hM]; cases s; simp_all
    rw [this]; exact h
  | cons m r =>
    have : takeS s = { s with M := r } := by unfold takeS; rw [hM]; rfl
    rw [this]; exact ok_take h hM
theorem takeS_tot : tot (takeS s) ≤ tot s := by
  cases hM : s.M with
  | nil =>
    have : takeS s = s := by unfold takeS; rw [hM]; cases s; simp_all
    rw [this]; exact Nat.le_refl _
  | cons m r =>
    have : takeS s = { s with M := r } := by unfold takeS; rw [hM]; rfl
    rw [this]
    have := tot_take hM
    omega
theorem turnS_nx : ∀ (n : Nat) (s : St) (st : Int), (turnS n s st).nx.length = s.nx.length
  | 0, _, _ => rfl
  | n + 1, s, st => by
    unfold turnS
    split
    · rfl
    · rw [turnS_nx n]
      show (s.nx.set _ _).length = _
      rw [List.length_set]
theorem putT_nx (s : St) (c : Ch) : (putT s c).nx.length = s.nx.length := by
  unfold putT putS
  split
  · split
    · split
      · rfl
      · rw [turnS_nx]; rfl
    · rfl
  · rfl
theorem putT_tot (h : OkB s) (hc : CkOk c) (hl : s.lim ≤ 1073741824) (ht : (tot s : Int) ≤ s.lim) : (tot (putT s c) : Int) ≤ s.lim := by
  unfold putT
  split
  · rename_i he
    obtain ⟨_, h2⟩ := put_ok h hc hl he
    obtain ⟨_, _, _, _, _, _, h3, _⟩ := putE_0 he
    rw [h2]
    omega
  · exact ht
theorem putT_lim' (s : St) (c : Ch) : (putT s c).lim = s.lim := by
  have ht : ∀ (n : Nat) (s : St) (st : Int), (turnS n s st).lim = s.lim := by
    intro n
    induction n with
    | zero => intro s st; rfl
    | succ n ih =>
      intro s st
      unfold turnS
      split
      · rfl
      · rw [ih]; rfl
  unfold putT putS
  split
  · split
    · split
      · rfl
      · rw [ht]; rfl
    · rfl
  · rfl
theorem dropT_nx (s : St) (t : Int) : (dropT s t).nx = s.nx := by unfold dropT; split <;> rfl
theorem dropT_lim (s : St) (t : Int) : (dropT s t).lim = s.lim := by unfold dropT; split <;> rfl
/-- A table in order, within its limit. -/
structure OkL (s : St) (n : Nat) (lim : Int) : Prop extends OkB s where
  nxl : s.nx.length = n
  limE : s.lim = lim
  limR : 1 ≤ lim ∧ lim ≤ 1073741824
  nR : 1 ≤ n ∧ n ≤ 1024
  within : (Go.Proofs.Ytaflmpbeonoilaa.tot s : Int) ≤ lim
variable {n : Nat} {lim : Int}
theorem OkL.new (h1 : 1 ≤ n ∧ n ≤ 1024) (h2 : 1 ≤ lim ∧ lim ≤ 1073741824) : OkL (newS n lim) n lim := ⟨newS_ok n lim, by simp [newS], rfl, h2, h1, by rw [newS_tot]; show (0 : Int) ≤ lim; omega⟩
theorem OkL.put (h : OkL s n lim) (hc : CkOk c) : OkL (putT s c) n lim :=
  ⟨putT_ok h.toOkB hc (by rw [h.limE]; exact h.limR.2), by rw [putT_nx, h.nxl], by rw [putT_lim', h.limE], h.limR, h.nR, by
    have := putT_tot h.toOkB hc (by rw [h.limE]; exact h.limR.2) (by rw [h.limE]; exact h.within)
    rw [h.limE] at this
    exact this⟩
theorem OkL.take (h : OkL s n lim) : OkL (takeS s) n lim := ⟨takeS_ok h.toOkB, h.nxl, h.limE, h.limR, h.nR, by have := takeS_tot (s := s); have := h.within; omega⟩
theorem OkL.drop (h : OkL s n lim) (t : Int) : OkL (dropT s t) n lim := ⟨dropT_ok h.toOkB t, by rw [dropT_nx, h.nxl], by rw [dropT_lim, h.limE], h.limR, h.nR, by have := dropT_tot h.toOkB t; have := h.within; omega⟩
theorem OkL.move (h : OkL s n lim) (t : Int) : OkL (moveS s t) n lim := ⟨move_ok h.toOkB t, h.nxl, h.limE, h.limR, h.nR, h.within⟩
/-! the calls -/
theorem c18s (h : Hs W (tabP tb hd s :: L) w) : Calls Try.prog 18 #[.pointer (some ⟨tb, 0, none⟩)] w (rt (KR (.int .i64 hd) w)) := by
  obtain ⟨d, hi, h⟩ := tab_open h
  exact c18 h
theorem c16s (h : Hs W (tabP tb hd s :: L) w) : Calls Try.prog 16 #[.pointer (some ⟨tb, 0, none⟩)] w (rt (KR (.int .i64 (s.M.length : Int)) w)) := by
  obtain ⟨d, hi, h⟩ := tab_open h
  have : d.ms.length = s.M.length := by rw [← hi.M, List.length_map]
  rw [← this]
  exact c16 h
theorem c19s (hok : OkB s) (h : Hs W (tabP tb hd s :: Z) w) : Calls Try.prog 19 #[.pointer (some ⟨tb, 0, none⟩)] w (rt fun v w' => ∃ a c, v = .slice a (srt (keys s.L)).length c ∧ Hs W (slP 30 1 a (srt (keys s.L)).length c (inV .u32 (srt (keys s.L))) :: tabP tb hd s :: Z) w') := by
  obtain ⟨d, hi, h⟩ := tab_open h
  have hc := hok.cnt
  refine rt_mono (c19 hok.key hi (by omega) h) ?_
  rintro v w' ⟨a, c, rfl, h'⟩
  have e : (srt (keys s.L)).length = s.L.length := by rw [srt_len]; simp
  rw [e]
  refine ⟨a, c, rfl, ?_⟩
  have h2 := tab_shut hi (L := slP 30 1 a s.L.length c (inV .u32 (srt (keys s.L))) :: Z) (h'.behind (L := tabL tb hd d s))
  exact h2.perm (List.Perm.swap _ _ _)
theorem c23s {cum : Int} (h : Hs W (tabP tb (tot s) s :: Z) w) : Calls Try.prog 23 #[.pointer (some ⟨tb, 0, none⟩), .int .u32 cum] w (rt fun v w' => v = .int .i64 0 ∧ Hs W (tabP tb (tot (moveS s cum)) (moveS s cum) :: Z) w') := by
  obtain ⟨d, hi, h⟩ := tab_open h
  refine rt_mono (c23 h) ?_
  rintro v w' ⟨rfl, h'⟩
  exact ⟨rfl, tab_shut (s := moveS s cum) ⟨hi.L, hi.wh, hi.M⟩ h'⟩
theorem c22s {t : Int} (hok : OkB s) (h : Hs W (tabP tb (tot s) s :: Z) w) : Calls Try.prog 22 #[.pointer (some ⟨tb, 0, none⟩), .int .u32 t] w (rt fun v w' => v = .tuple #[.bool (look s.L t).isSome, .int .i64 0] ∧ Hs W (tabP tb (tot (dropT s t)) (dropT s t) :: Z) w') := by
  obtain ⟨d, hi, h⟩ := tab_open h
  cases hx : look s.L t with
  | none =>
    refine rt_mono (c22_no hi hx h) ?_
    rintro v w' ⟨rfl, h'⟩
    refine ⟨rfl, ?_⟩
    have : dropT s t = s := by unfold dropT; rw [hx]; rfl
    rw [this]
    exact tab_shut hi h'
  | some x =>
    have ht := tot_drop hok hx
    have hle := hok.tot
    have hrn : d.rs.length = s.wh.length := by rw [← hi.wh, List.length_map]
    have hfew := rows_few hok.toOkA
    refine rt_mono (c22_ok hi hx ⟨by omega, by omega⟩ (by omega) (fun e he => ?_) h) ?_
    · have hm : e.l ∈ s.wh := by rw [← hi.wh]; exact List.mem_map.2 ⟨e, he, rfl⟩
      obtain ⟨_, q2, q3⟩ := hok.rows _ hm
      have := nodup_sub_len _ _ q2 q3
      have hk : (keys s.L).length = s.L.length := by simp
      have := hok.cnt
      omega
    · rintro v w' ⟨rfl, d', hi', h'⟩
      refine ⟨rfl, ?_⟩
      have : dropT s t = dropS s t := by unfold dropT; rw [hx]; rfl
      rw [this]
      have e : ((tot s : Nat) : Int) - (x.b.length : Int) = ((tot (dropS s t) : Nat) : Int) := by omega
      rw [e] at h'
      exact tab_shut hi' h'
/-- Take, whatever is ready -/
theorem c13a (hb : tot s ≤ 1073741824) (h : Hs W (tabP tb (tot s) s :: L) w) : Calls Try.prog 13 #[.pointer (some ⟨tb, 0, none⟩)] w (rt fun v w' => ∃ (r : R38) (a : Option Addr) (c : Nat), v = .tuple #[r.v, .bool (s.M.head?.isSome)] ∧ (match s.M.head? with | some m => r = m.rc a c ∧ Hs W (tabP tb (tot (takeS s)) (takeS s) :: slP 5 1 a m.d.length c (inV .u8 m.d) :: L) w' | none => r = R38.z ∧ Hs W (tabP tb (tot (takeS s)) (takeS s) :: L) w')) := by
  cases hM : s.M with
  | nil =>
    refine rt_mono (c13n hM h) ?_
    rintro v w' ⟨rfl, h'⟩
    have : takeS s = s := by unfold takeS; rw [hM]; cases s; simp_all
    refine ⟨R38.z, none, 0, rfl, rfl, ?_⟩
    rw [this]
    exact h'
  | cons m r =>
    refine rt_mono (c13s hM hb h) ?_
    rintro v w' ⟨a, c, rfl, h'⟩
    have : takeS s = { s with M := r } := by unfold takeS; rw [hM]; rfl
    refine ⟨_, a, c, rfl, rfl, ?_⟩
    rw [this]
    exact h'
theorem c9_err {n1 n2 : Int} (hb : n1 < 1 ∨ 1024 < n1 ∨ n2 < 1 ∨ 1073741824 < n2) (w : World) : Calls Try.prog 9 #[.int .i64 n1, .int .i64 n2] w (rt (KR (.tuple #[.pointer none, .int .i64 1]) w)) := by
  refine F9_ok ?_
  unfold F9
  simp only [rdI_mk, br_dec]
  refine ⟨fun _ => KR.mk _ _, fun q1 => ⟨fun _ => KR.mk _ _, fun q2 => ⟨fun _ => KR.mk _ _, fun q3 => ⟨fun _ => KR.mk _ _, fun q4 => ?_⟩⟩⟩⟩
  exfalso
  omega
end
end Go.Proofs.Ytaflmpbeonoilaa
