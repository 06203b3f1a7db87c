/- Own text: part of the shallow reading of the code and of the contracts that are proved over it. -/
import Derived.Test.YtilenpnpnbdndaaGreatDoorRtG
import Derived.Test.YtilenpnpnbdndaaGreatDoorSrQ2
/-
  The document's Line: fn 9 (printed by hgen.py).
-/
namespace Go.Proofs.YtilenpnpnbdndaaGreatDoor
open Go Go.Sh
set_option maxRecDepth 100000
attribute [local instance] Esc.none
def kOf (o : Nat) : Nat := ([(1, 69), (2, 70), (3, 71), (4, 79), (5, 80), (6, 77), (7, 72), (8, 73), (9, 74), (10, 75), (11, 76), (1000000, 75)].find? fun p => p.1 == o).elim 0 (·.2)
def feet : List Nat := [1, 2, 3, 4, 5, 6, 7, 8, 9, 10, 11, 1000000]
theorem foot_part : ∀ k ∈ partIds, ∀ o ∈ foot (partIt k), kOf o = k := by
  have : partIds.all (fun k => (foot (partIt k)).all fun o => kOf o == k) = true := by decide +kernel
  intro k hk o ho
  have := List.all_eq_true.1 (List.all_eq_true.1 this k hk) o ho
  simpa using this
theorem part_foot : ∀ o ∈ feet, o ∈ foot (partIt (kOf o)) := by
  have : feet.all (fun o => (foot (partIt (kOf o))).contains o) = true := by decide +kernel
  intro o ho
  have := List.all_eq_true.1 this o ho
  simpa using this
theorem hasFoot_iff {t : Vb} (ht : t ∈ vtab) (o : Nat) (ho : o ∈ feet) : hasFoot t o ↔ t.2.2.contains (kOf o) = true := by
  constructor
  · rintro ⟨it, hi, hf⟩
    rcases List.mem_cons.1 hi with rfl | hi
    · simp [foot] at hf
    · obtain ⟨k, hk, rfl⟩ := List.mem_map.1 hi
      rw [foot_part k ((vtab_ok t ht).1 k hk) o hf]
      simpa using hk
  · intro h
    exact ⟨partIt (kOf o), List.mem_cons_of_mem _ (List.mem_map.2 ⟨kOf o, by simpa using h, rfl⟩), part_foot o ho⟩
theorem fine_ok {R : R26} {dat : List UInt8} {t : Vb} (ht : t ∈ vtab) (h : Fine R dat) : okAll (itemsOf t) ⟨R.c, dat⟩ := by
  intro it hi
  rcases List.mem_cons.1 hi with rfl | hi
  · trivial
  · obtain ⟨k, hk, rfl⟩ := List.mem_map.1 hi
    have hk := (vtab_ok t ht).1 k hk
    simp only [partIds, List.mem_cons, List.not_mem_nil, or_false] at hk
    rcases hk with rfl | rfl | rfl | rfl | rfl | rfl | rfl | rfl | rfl | rfl | rfl
    · exact h.n1
    · exact h.n2
    · exact h.n3
    · exact h.good.2.1
    · exact h.good.2.2
    · trivial
    · exact h.dat
    · exact h.why
    · exact h.n6
    · exact h.n4
    · exact h.good.1
theorem LineOk.fine {R : R26} {dat : List UInt8} {t : Vb} (h : LineOk t R dat) (hG : GoodD ⟨R.c, dat⟩) : Fine R dat := by
  have num : ∀ o ∈ [1, 2, 3, 4, 6], partIt (kOf o) = .num o .i64 1099511627776 → o ∈ feet → R26.zz.c[o]? = some (.int .i64 0) → 0 ≤ iAt R.c o ∧ iAt R.c o ≤ 1099511627776 := fun o ho hp hf hz => by
    rcases Classical.em (hasFoot t o) with hx | hx
    · have hb := (hasFoot_iff h.mem o hf).1 hx
      have := h.ok (partIt (kOf o)) (List.mem_cons_of_mem _ (List.mem_map.2 ⟨kOf o, by simpa using hb, rfl⟩))
      rw [hp] at this
      exact this
    · have hne : o ≠ 0 ∧ o ≠ 10 := by simp at ho; omega
      have := h.away o hne.1 hne.2 hx
      rw [hz] at this
      rw [iAt_of this]
      omega
  refine ⟨num 1 (by simp) rfl (by decide) rfl, num 2 (by simp) rfl (by decide) rfl, num 3 (by simp) rfl (by decide) rfl, num 4 (by simp) rfl (by decide) rfl, num 6 (by simp) rfl (by decide) rfl, hG, ?_, ?_⟩
  · rcases Classical.em (hasFoot t 1000000) with hx | hx
    · have hb : t.2.2.contains 75 = true := (hasFoot_iff h.mem 1000000 (by decide)).1 hx
      exact h.ok (.dat 10) (List.mem_cons_of_mem _ (List.mem_map.2 ⟨75, by simpa using hb, rfl⟩))
    · rw [h.data hx]; simp
  · rcases Classical.em (hasFoot t 11) with hx | hx
    · have hb : t.2.2.contains 76 = true := (hasFoot_iff h.mem 11 (by decide)).1 hx
      exact h.ok (.why 11) (List.mem_cons_of_mem _ (List.mem_map.2 ⟨76, by simpa using hb, rfl⟩))
    · have := h.away 11 (by decide) (by decide) hx
      have : some (Value.string R.f11) = some (Value.string ⟨#[]⟩) := this
      injection this with this
      injection this with this
      rw [this]
      decide
theorem mask_line {R : R26} {dat : List UInt8} {t : Vb} (ht : t ∈ vtab) (hk : R.f0 = t.1) (ho : okAll (itemsOf t) ⟨R.c, dat⟩) : Deq R dat (maskR t R) (maskD t dat) ↔ LineOk t R dat := by
  constructor
  · intro h
    refine ⟨ht, ho, hk, fun o h0 h10 hf => ?_, fun hf => ?_⟩
    · revert h0 h10 hf
      exact fun h0 h10 hf => match o, h0, h10, hf with
    | 0, h0, _, _ => absurd rfl h0
    | 1, _, _, hf => by
      have hb : t.2.2.contains 69 = false := by cases hb : t.2.2.contains 69 with | true => exact absurd ((hasFoot_iff ht 1 (by decide)).2 hb) hf | false => rfl
      have hc := h.cells 1 (by decide)
      have hm : (maskR t R).c[1]? = some (Value.int .i64 (bif t.2.2.contains 69 then R.f1 else 0)) := rfl
      rw [hm, hb] at hc
      exact hc
    | 2, _, _, hf => by
      have hb : t.2.2.contains 70 = false := by cases hb : t.2.2.contains 70 with | true => exact absurd ((hasFoot_iff ht 2 (by decide)).2 hb) hf | false => rfl
      have hc := h.cells 2 (by decide)
      have hm : (maskR t R).c[2]? = some (Value.int .i64 (bif t.2.2.contains 70 then R.f2 else 0)) := rfl
      rw [hm, hb] at hc
      exact hc
    | 3, _, _, hf => by
      have hb : t.2.2.contains 71 = false := by cases hb : t.2.2.contains 71 with | true => exact absurd ((hasFoot_iff ht 3 (by decide)).2 hb) hf | false => rfl
      have hc := h.cells 3 (by decide)
      have hm : (maskR t R).c[3]? = some (Value.int .i64 (bif t.2.2.contains 71 then R.f3 else 0)) := rfl
      rw [hm, hb] at hc
      exact hc
    | 4, _, _, hf => by
      have hb : t.2.2.contains 79 = false := by cases hb : t.2.2.contains 79 with | true => exact absurd ((hasFoot_iff ht 4 (by decide)).2 hb) hf | false => rfl
      have hc := h.cells 4 (by decide)
      have hm : (maskR t R).c[4]? = some (Value.int .i64 (bif t.2.2.contains 79 then R.f4 else 0)) := rfl
      rw [hm, hb] at hc
      exact hc
    | 5, _, _, hf => by
      have hb : t.2.2.contains 80 = false := by cases hb : t.2.2.contains 80 with | true => exact absurd ((hasFoot_iff ht 5 (by decide)).2 hb) hf | false => rfl
      have hc := h.cells 5 (by decide)
      have hm : (maskR t R).c[5]? = some (Value.int .u8 (bif t.2.2.contains 80 then R.f5 else 0)) := rfl
      rw [hm, hb] at hc
      exact hc
    | 6, _, _, hf => by
      have hb : t.2.2.contains 77 = false := by cases hb : t.2.2.contains 77 with | true => exact absurd ((hasFoot_iff ht 6 (by decide)).2 hb) hf | false => rfl
      have hc := h.cells 6 (by decide)
      have hm : (maskR t R).c[6]? = some (Value.int .i64 (bif t.2.2.contains 77 then R.f6 else 0)) := rfl
      rw [hm, hb] at hc
      exact hc
    | 7, _, _, hf => by
      have hb : t.2.2.contains 72 = false := by cases hb : t.2.2.contains 72 with | true => exact absurd ((hasFoot_iff ht 7 (by decide)).2 hb) hf | false => rfl
      have hc := h.cells 7 (by decide)
      have hm : (maskR t R).c[7]? = some (Value.int .u16 (bif t.2.2.contains 72 then R.f7 else 0)) := rfl
      rw [hm, hb] at hc
      exact hc
    | 8, _, _, hf => by
      have hb : t.2.2.contains 73 = false := by cases hb : t.2.2.contains 73 with | true => exact absurd ((hasFoot_iff ht 8 (by decide)).2 hb) hf | false => rfl
      have hc := h.cells 8 (by decide)
      have hm : (maskR t R).c[8]? = some (Value.int .u32 (bif t.2.2.contains 73 then R.f8 else 0)) := rfl
      rw [hm, hb] at hc
      exact hc
    | 9, _, _, hf => by
      have hb : t.2.2.contains 74 = false := by cases hb : t.2.2.contains 74 with | true => exact absurd ((hasFoot_iff ht 9 (by decide)).2 hb) hf | false => rfl
      have hc := h.cells 9 (by decide)
      have hm : (maskR t R).c[9]? = some (Value.bool (bif t.2.2.contains 74 then R.f9 else false)) := rfl
      rw [hm, hb] at hc
      exact hc
    | 11, _, _, hf => by
      have hb : t.2.2.contains 76 = false := by cases hb : t.2.2.contains 76 with | true => exact absurd ((hasFoot_iff ht 11 (by decide)).2 hb) hf | false => rfl
      have hc := h.cells 11 (by decide)
      have hm : (maskR t R).c[11]? = some (Value.string (bif t.2.2.contains 76 then R.f11 else ⟨#[]⟩)) := rfl
      rw [hm, hb] at hc
      exact hc
    | 10, _, h10, _ => absurd rfl h10
    | o + 12, _, _, _ => by rw [Array.getElem?_eq_none (by show 12 ≤ o + 12; omega), Array.getElem?_eq_none (by show 12 ≤ o + 12; omega)]
    · have hb : t.2.2.contains 75 = false := by cases hb : t.2.2.contains 75 with | true => exact absurd ((hasFoot_iff ht 1000000 (by decide)).2 hb) hf | false => rfl
      have hd := h.dat
      unfold maskD at hd
      rw [hb] at hd
      exact hd
  · rintro ⟨_, _, _, ha, hd⟩
    refine ⟨fun o h10 => ?_, ?_⟩
    · exact match o, h10 with
    | 0, _ => rfl
    | 1, _ => by
      show some (Value.int .i64 R.f1) = some (Value.int .i64 (bif t.2.2.contains 69 then R.f1 else 0))
      cases hb : t.2.2.contains 69 with
      | true => rfl
      | false => exact ha 1 (by decide) (by decide) fun hf => by have hx : t.2.2.contains 69 = true := (hasFoot_iff ht 1 (by decide)).1 hf; rw [hx] at hb; cases hb
    | 2, _ => by
      show some (Value.int .i64 R.f2) = some (Value.int .i64 (bif t.2.2.contains 70 then R.f2 else 0))
      cases hb : t.2.2.contains 70 with
      | true => rfl
      | false => exact ha 2 (by decide) (by decide) fun hf => by have hx : t.2.2.contains 70 = true := (hasFoot_iff ht 2 (by decide)).1 hf; rw [hx] at hb; cases hb
    | 3, _ => by
      show some (Value.int .i64 R.f3) = some (Value.int .i64 (bif t.2.2.contains 71 then R.f3 else 0))
      cases hb : t.2.2.contains 71 with
      | true => rfl
      | false => exact ha 3 (by decide) (by decide) fun hf => by have hx : t.2.2.contains 71 = true := (hasFoot_iff ht 3 (by decide)).1 hf; rw [hx] at hb; cases hb
    | 4, _ => by
      show some (Value.int .i64 R.f4) = some (Value.int .i64 (bif t.2.2.contains 79 then R.f4 else 0))
      cases hb : t.2.2.contains 79 with
      | true => rfl
      | false => exact ha 4 (by decide) (by decide) fun hf => by have hx : t.2.2.contains 79 = true := (hasFoot_iff ht 4 (by decide)).1 hf; rw [hx] at hb; cases hb
    | 5, _ => by
      show some (Value.int .u8 R.f5) = some (Value.int .u8 (bif t.2.2.contains 80 then R.f5 else 0))
      cases hb : t.2.2.contains 80 with
      | true => rfl
      | false => exact ha 5 (by decide) (by decide) fun hf => by have hx : t.2.2.contains 80 = true := (hasFoot_iff ht 5 (by decide)).1 hf; rw [hx] at hb; cases hb
    | 6, _ => by
      show some (Value.int .i64 R.f6) = some (Value.int .i64 (bif t.2.2.contains 77 then R.f6 else 0))
      cases hb : t.2.2.contains 77 with
      | true => rfl
      | false => exact ha 6 (by decide) (by decide) fun hf => by have hx : t.2.2.contains 77 = true := (hasFoot_iff ht 6 (by decide)).1 hf; rw [hx] at hb; cases hb
    | 7, _ => by
      show some (Value.int .u16 R.f7) = some (Value.int .u16 (bif t.2.2.contains 72 then R.f7 else 0))
      cases hb : t.2.2.contains 72 with
      | true => rfl
      | false => exact ha 7 (by decide) (by decide) fun hf => by have hx : t.2.2.contains 72 = true := (hasFoot_iff ht 7 (by decide)).1 hf; rw [hx] at hb; cases hb
    | 8, _ => by
      show some (Value.int .u32 R.f8) = some (Value.int .u32 (bif t.2.2.contains 73 then R.f8 else 0))
      cases hb : t.2.2.contains 73 with
      | true => rfl
      | false => exact ha 8 (by decide) (by decide) fun hf => by have hx : t.2.2.contains 73 = true := (hasFoot_iff ht 8 (by decide)).1 hf; rw [hx] at hb; cases hb
    | 9, _ => by
      show some (Value.bool R.f9) = some (Value.bool (bif t.2.2.contains 74 then R.f9 else false))
      cases hb : t.2.2.contains 74 with
      | true => rfl
      | false => exact ha 9 (by decide) (by decide) fun hf => by have hx : t.2.2.contains 74 = true := (hasFoot_iff ht 9 (by decide)).1 hf; rw [hx] at hb; cases hb
    | 11, _ => by
      show some (Value.string R.f11) = some (Value.string (bif t.2.2.contains 76 then R.f11 else ⟨#[]⟩))
      cases hb : t.2.2.contains 76 with
      | true => rfl
      | false => exact ha 11 (by decide) (by decide) fun hf => by have hx : t.2.2.contains 76 = true := (hasFoot_iff ht 11 (by decide)).1 hf; rw [hx] at hb; cases hb
    | 10, h10 => absurd rfl h10
    | o + 12, _ => by rw [Array.getElem?_eq_none (by show 12 ≤ o + 12; omega), Array.getElem?_eq_none (by show 12 ≤ o + 12; omega)]
    · unfold maskD
      cases hb : t.2.2.contains 75 with
      | true => rfl
      | false => exact hd fun hf => by have hx : t.2.2.contains 75 = true := (hasFoot_iff ht 1000000 (by decide)).1 hf; rw [hx] at hb; cases hb
end Go.Proofs.YtilenpnpnbdndaaGreatDoor
/-
  The document's Line: fn 9.
-/
namespace Go.Proofs.YtilenpnpnbdndaaGreatDoor
open Go Go.Sh
set_option maxRecDepth 100000
attribute [local instance] Esc.none
theorem vtab_name_ne : ∀ t ∈ vtab, t.2.1 ≠ ⟨#[]⟩ := by
  have : vtab.all (fun t => !(bl t.2.1).isEmpty) = true := by decide +kernel
  intro t ht e
  have := List.all_eq_true.1 this t ht
  rw [e] at this
  cases this
theorem line_ne {t : Vb} (ht : t ∈ vtab) (s : Sc) : lineOf (itemsOf t) s ≠ ⟨#[]⟩ := by
  intro e
  have h1 := LineOk.words_eq ht s
  rw [e] at h1
  have h2 : words ⟨#[]⟩ = [⟨#[]⟩] := rfl
  rw [h2] at h1
  injection h1 with h1 _
  exact vtab_name_ne t ht h1.symm
theorem mask_holds {w : World} {R : R26} {dat : List UInt8} (h : Holds26 w R dat) (t : Vb) : Holds26 w (maskR t R) (maskD t dat) := by
  unfold maskR maskD
  cases hb : t.2.2.contains 75 with
  | true => exact ⟨h.len, h.rd⟩
  | false => exact ⟨rfl, Rd.nil _ _⟩
section
variable {W w : World} {M : List HP}
theorem F9_1_go {R : R26} {dat : List UInt8} {b : Nat} {Kr : Value → Value → World → Prop} (hT : TB W) (hd : Holds26 W R dat) (hF : Fine R dat) (h : Hs W (pt b (.cells R.c 27 (0, 0)) :: M) w)
    (hK : ∀ w' t, LineOk t R dat → Hs W M w' → Kr (.string (lineOf (itemsOf t) ⟨R.c, dat⟩)) (.int .i64 0) w') (hR : ∀ w', (∀ t, ¬ LineOk t R dat) → Hs W M w' → Kr (.string ⟨#[]⟩) (.int .i64 1) w') :
    F9_1 Kr (.pointer (some ⟨b, 0, none⟩)) w := by
  unfold F9_1
  simp only [rdA_mk]
  refine ldR26_of (s := R) (h.atL 0 rfl) ?_
  refine cl (c31 hT h hd hF) ?_
  rintro _ w2 ⟨h2, hv⟩
  rcases hv with ⟨t, hv, rfl⟩ | ⟨hv, rfl⟩
  · obtain ⟨ht, hk⟩ := vfind_mem hv
    have hk : R.f0 = t.1 := by have : t.1 = R.f0 := by simpa using hk
                               exact this.symm
    refine ⟨_, exR26_of (maskR t R) ⟨rfl, h2.alc fun b7 w3 h3 => h3.stcL 0 rfl (by rfl) fun w4 h4 => ?_⟩⟩
    have h4 : Hs W (pt b7 (.cells (maskR t R).c 27 (0, 0)) :: pt b (.cells R.c 27 (0, 0)) :: M) w4 := h4
    rw [str_beq, decide_eq_false (line_ne ht _), br_false]
    refine ldR26_of (s := R) (h4.atL 1 rfl) (ldR26_of (s := maskR t R) (h4.atL 0 rfl) ?_)
    have hd4 := hd.same h4.old
    refine cl (c12 h4 hd4 (mask_holds hd4 t)) ?_
    rintro _ w5 ⟨rfl, h5⟩
    refine ⟨_, rfl, ?_⟩
    have hml := mask_line (dat := dat) ht hk (fine_ok ht hF)
    cases hb : sameB R dat (maskR t R) (maskD t dat) with
    | true =>
      rw [Bool.not_true, br_false]
      exact hK w5 t (hml.1 (sameB_iff.1 hb)) h5.drop.drop
    | false =>
      rw [Bool.not_false, br_true]
      refine hR w5 (fun t' ht' => ?_) h5.drop.drop
      have e : t' = t := vtab_kinds _ ht'.mem _ ht (by rw [← ht'.kind, hk])
      subst e
      rw [sameB_iff.2 (hml.2 ht')] at hb
      cases hb
  · refine ⟨_, exR26_of R26.zz ⟨rfl, h2.alc fun b7 w3 h3 => h3.stcL 0 rfl (by rfl) fun w4 h4 => ?_⟩⟩
    rw [str_beq, decide_eq_true rfl, br_true]
    refine hR w4 (fun t' ht' => ?_) h4.drop.drop
    have := vfind_none hv t' ht'.mem
    rw [ht'.kind] at this
    simp at this
theorem c9 {R : R26} {dat : List UInt8} (hT : TB W) (h : Hs W M w) (hG : GoodD ⟨R.c, dat⟩) (hd : Holds26 W R dat) : Calls Tryz.prog 9 #[R.v] w (rt fun v w' => Hs W M w' ∧
    ((∃ t, LineOk t R dat ∧ v = .tuple #[.string (lineOf (itemsOf t) ⟨R.c, dat⟩), .int .i64 0]) ∨ ((∀ t, ¬ LineOk t R dat) ∧ v = .tuple #[.string ⟨#[]⟩, .int .i64 1]))) := by
  refine F9_ok ?_
  unfold F9
  refine exR26_of R ⟨rfl, h.alc fun b w2 h2 => h2.ldC 0 rfl rfl ?_⟩
  have hbad : ∀ w', Hs W (pt b (.cells R.c 27 (0, 0)) :: M) w' → ¬ Fine R dat → Hs W M w' ∧
    ((∃ t, LineOk t R dat ∧ Value.tuple #[.string ⟨#[]⟩, .int .i64 1] = .tuple #[.string (lineOf (itemsOf t) ⟨R.c, dat⟩), .int .i64 0]) ∨ ((∀ t, ¬ LineOk t R dat) ∧ Value.tuple #[.string ⟨#[]⟩, .int .i64 1] = .tuple #[.string ⟨#[]⟩, .int .i64 1])) :=
    fun w' h' hn => ⟨h'.drop, .inr ⟨fun t ht => hn (ht.fine hG), rfl⟩⟩
  refine br_and (fun e => hbad _ h2 fun hF => ?_) (fun e1 => ?_)
  · have := of_decide_eq_true e
    have h3 := hF.dat
    rw [hd.len] at this
    omega
  have hdl : dat.length ≤ 65536 := by have := of_decide_eq_false e1; rw [hd.len] at this; omega
  refine h2.ldS 0 rfl rfl ?_
  refine br_and (fun e => hbad _ h2 fun hF => ?_) (fun e2 => ?_)
  · have := of_decide_eq_true e
    have h3 := hF.why
    omega
  have hwl : R.f11.size ≤ 65536 := by have := of_decide_eq_false e2; omega
  refine h2.ldI 0 rfl rfl (clr c30 ⟨_, rfl, br_and (fun e => hbad _ h2 fun hF => ?_) (fun n1 => ?_)⟩)
  · rw [decide_eq_true hF.n1] at e; cases e
  have n1 := of_decide_eq_true (by simpa using n1 : decide _ = true)
  refine h2.ldI 0 rfl rfl (clr c30 ⟨_, rfl, br_and (fun e => hbad _ h2 fun hF => ?_) (fun n2 => ?_)⟩)
  · rw [decide_eq_true hF.n2] at e; cases e
  have n2 := of_decide_eq_true (by simpa using n2 : decide _ = true)
  refine h2.ldI 0 rfl rfl (clr c30 ⟨_, rfl, br_and (fun e => hbad _ h2 fun hF => ?_) (fun n3 => ?_)⟩)
  · rw [decide_eq_true hF.n3] at e; cases e
  have n3 := of_decide_eq_true (by simpa using n3 : decide _ = true)
  refine h2.ldI 0 rfl rfl (clr c30 ⟨_, rfl, br_and (fun e => hbad _ h2 fun hF => ?_) (fun n4 => ?_)⟩)
  · rw [decide_eq_true hF.n4] at e; cases e
  have n4 := of_decide_eq_true (by simpa using n4 : decide _ = true)
  refine h2.ldI 0 rfl rfl (clr c30 ⟨_, rfl, br_and (fun e => hbad _ h2 fun hF => ?_) (fun n6 => ?_)⟩)
  · rw [decide_eq_true hF.n6] at e; cases e
  have n6 := of_decide_eq_true (by simpa using n6 : decide _ = true)
  have hF : Fine R dat := ⟨n1, n2, n3, n4, n6, hG, hdl, hwl⟩
  refine F9_1_go hT hd hF h2 (fun w' t ht h' => ?_) (fun w' ht h' => ?_)
  · intro _
    simp only [rdS_mk, rdI_mk]
    exact ⟨h', .inl ⟨t, ht, by first | rfl | trivial⟩⟩
  · intro _
    simp only [rdS_mk, rdI_mk]
    exact ⟨h', .inr ⟨ht, by first | rfl | trivial⟩⟩
end
end Go.Proofs.YtilenpnpnbdndaaGreatDoor
