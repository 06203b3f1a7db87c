/-
  Fixed numbers: gathered of the map, sorted by their distances.
-/
import Derived.Test.YtaflmpbeonoilaaShSu
namespace Go.Proofs.Ytaflmpbeonoilaa
open Go Go.Sh Go.RowKit
def sortBy_ren : Go.Shelf.Ren := ⟨fun | 6 => 34 | 15 => 57 | 14 => 56 | 28 => 78 | 29 => 79 | 20 => 70 | 21 => 71 | 22 => 72 | 23 => 73 | 24 => 74 | 25 => 75 | 26 => 76 | 27 => 77 | 46 => 91 | 47 => 92 | 48 => 93 | 49 => 94 | 50 => 95 | 57 => 100 | n => n, fun | 22 => 33 | 24 => 30 | 25 => 82 | 3 => 3 | 39 => 99 | 0 => 0 | 53 => 30 | 55 => 119 | 4 => 4 | 46 => 112 | 45 => 111 | 50 => 116 | 5 => 5 | 9 => 9 | 66 => 127 | 70 => 131 | 76 => 135 | 77 => 136 | n => n, fun | n => n⟩
theorem sortBy : Go.Proofs.SlLaysF.n6 Try.prog sortBy_ren :=
  {
    mixed := by kernel_rfl,
    f6 := ⟨Try.f34.name, by decide, Try.func34.trans (congrArg some (by kernel_rfl))⟩,
    f14 := ⟨Try.f56.name, by decide, Try.func56.trans (congrArg some (by kernel_rfl))⟩,
    f15 := Try.func57.trans (congrArg some (by kernel_rfl)),
    f20 := ⟨Try.f70.name, by decide, Try.func70.trans (congrArg some (by kernel_rfl))⟩,
    f21 := ⟨Try.f71.name, by decide, Try.func71.trans (congrArg some (by kernel_rfl))⟩,
    f22 := ⟨Try.f72.name, by decide, Try.func72.trans (congrArg some (by kernel_rfl))⟩,
    f23 := ⟨Try.f73.name, by decide, Try.func73.trans (congrArg some (by kernel_rfl))⟩,
    f24 := ⟨Try.f74.name, by decide, Try.func74.trans (congrArg some (by kernel_rfl))⟩,
    f25 := ⟨Try.f75.name, by decide, Try.func75.trans (congrArg some (by kernel_rfl))⟩,
    f26 := ⟨Try.f76.name, by decide, Try.func76.trans (congrArg some (by kernel_rfl))⟩,
    f27 := ⟨Try.f77.name, by decide, Try.func77.trans (congrArg some (by kernel_rfl))⟩,
    f28 := Try.func78.trans (congrArg some (by kernel_rfl)),
    f29 := Try.func79.trans (congrArg some (by kernel_rfl)),
    f46 := ⟨Try.f91.name, by decide, Try.func91.trans (congrArg some (by kernel_rfl))⟩,
    f47 := Try.func92.trans (congrArg some (by kernel_rfl)),
    f48 := Try.func93.trans (congrArg some (by kernel_rfl)),
    f49 := ⟨Try.f94.name, by decide, Try.func94.trans (congrArg some (by kernel_rfl))⟩,
    f50 := ⟨Try.f95.name, by decide, Try.func95.trans (congrArg some (by kernel_rfl))⟩,
    f57 := ⟨Try.f100.name, by decide, Try.func100.trans (congrArg some (by kernel_rfl))⟩,
    t0 := Try.underlying0,
    a0 := Try.isAgg0,
    z0 := Try.sizeOf0,
    v0 := Try.zeroValue0,
    t3 := Try.underlying3,
    a3 := Try.isAgg3,
    z3 := Try.sizeOf3,
    v3 := Try.zeroValue3,
    t4 := Try.underlying4,
    a4 := Try.isAgg4,
    z4 := Try.sizeOf4,
    v4 := Try.zeroValue4,
    t5 := Try.underlying5,
    a5 := Try.isAgg5,
    z5 := Try.sizeOf5,
    v5 := Try.zeroValue5,
    t9 := Try.underlying9,
    a9 := Try.isAgg9,
    z9 := Try.sizeOf9,
    v9 := Try.zeroValue9,
    t22 := Try.underlying33,
    a22 := Try.isAgg33,
    z22 := Try.sizeOf33,
    v22 := Try.zeroValue33,
    a24 := Try.isAgg30,
    z24 := Try.sizeOf30,
    t25 := Try.underlying82,
    a25 := Try.isAgg82,
    z25 := Try.sizeOf82,
    v25 := Try.zeroValue82,
    t39 := Try.underlying99,
    a39 := Try.isAgg99,
    z39 := Try.sizeOf99,
    v39 := Try.zeroValue99,
    t45 := Try.underlying111,
    a45 := Try.isAgg111,
    z45 := Try.sizeOf111,
    v45 := Try.zeroValue111,
    t46 := Try.underlying112,
    a46 := Try.isAgg112,
    z46 := Try.sizeOf112,
    v46 := Try.zeroValue112,
    t50 := Try.underlying116,
    a50 := Try.isAgg116,
    z50 := Try.sizeOf116,
    v50 := Try.zeroValue116,
    t53 := Try.underlying30,
    a53 := Try.isAgg30,
    z53 := Try.sizeOf30,
    v53 := Try.zeroValue30,
    t55 := Try.underlying119,
    a55 := Try.isAgg119,
    z55 := Try.sizeOf119,
    v55 := Try.zeroValue119,
    t66 := Try.underlying127,
    a66 := Try.isAgg127,
    z66 := Try.sizeOf127,
    v66 := Try.zeroValue127,
    t70 := Try.underlying131,
    a70 := Try.isAgg131,
    z70 := Try.sizeOf131,
    v70 := Try.zeroValue131,
    t76 := Try.underlying135,
    a76 := Try.isAgg135,
    z76 := Try.sizeOf135,
    v76 := Try.zeroValue135,
    t77 := Try.underlying136,
    a77 := Try.isAgg136,
    z77 := Try.sizeOf136,
    v77 := Try.zeroValue136
  }
/-! distances -/
def dif (a b : Int) : Int := if (b - a) % 4294967296 ≥ 2147483648 then (b - a) % 4294967296 - 4294967296 else (b - a) % 4294967296
def cmpI (a b : Int) : Int := if a < b then -1 else if a > b then 1 else 0
theorem dif_inj {c a b : Int} (ha : 0 ≤ a ∧ a < 4294967296) (hb : 0 ≤ b ∧ b < 4294967296) (h : dif c a = dif c b) : a = b := by
  unfold dif at h
  split at h <;> split at h <;> omega
theorem dif_rng (a b : Int) : -2147483648 ≤ dif a b ∧ dif a b ≤ 2147483647 := by
  unfold dif
  split <;> omega
section
variable {W w : World} {L M Z : List HP} {tb mc mf : Nat} {hd : Int} {d : TD} {s : St} {es : List Ec} {F : List Int} {c : Ch}
theorem c55 (a b : Int) (w : World) : Calls Try.prog 55 #[.int .u32 a, .int .u32 b] w (rt (KR (.int .i64 (dif a b)) w)) := by
  refine F55_ok ?_
  unfold F55
  simp only [rdI_mk]
  have e1 : IntKind.wrap .i64 ((IntKind.wrap .i64 ((IntKind.wrap .u32 (Int.tdiv (bitI .xor .u32 (if IntKind.signed .u32 then -1 else IntKind.max .u32) (IntKind.wrap .u32 (0))) 2)))) + 1) = 2147483648 := by kernel_rfl
  have e2 : IntKind.wrap .i64 (IntKind.wrap .u32 (b - a)) = (b - a) % 4294967296 := by rw [wrap_u32_mod, wrap_i64 (by omega) (by omega)]
  rw [e1, e2, br_dec]
  have e3 : IntKind.wrap .i64 (2 * 2147483648) = 4294967296 := by kernel_rfl
  rw [e3]
  unfold dif
  refine ⟨fun h => ?_, fun h => ?_⟩
  · rw [if_pos h, wrap_i64 (by omega) (by omega)]
    exact KR.mk _ _
  · rw [if_neg h]
    exact KR.mk _ _
theorem c33 (a b : Int) (w : World) : Calls Try.prog 33 #[.int .u32 a, .int .u32 b] w (rt (KR (.int .i64 (dif a b)) w)) := by
  refine F33_ok ?_
  unfold F33
  simp only [rdI_mk]
  exact clr (c55 a b w) ⟨_, rfl, KR.mk _ _⟩
theorem c58 (a : Int) (w : World) : Calls Try.prog 58 #[.int .i64 a] w (rt (KR (.bool false) w)) := by
  refine F58_ok ?_
  unfold F58
  simp only [rdI_mk, bne_self_eq_false]
  exact KR.mk _ _
theorem c36 (a b : Int) (w : World) : Calls Try.prog 36 #[.int .i64 a, .int .i64 b] w (rt (KR (.int .i64 (cmpI a b)) w)) := by
  refine F36_ok ?_
  unfold F36
  simp only [rdI_mk]
  refine clr (c58 a w) ⟨_, rfl, ?_⟩
  refine clr (c58 b w) ⟨_, rfl, ?_⟩
  simp only [br_false, br_dec]
  unfold cmpI
  refine ⟨fun h => ?_, fun h => ⟨fun g => ?_, fun g => ?_⟩⟩
  · rw [if_pos h]; exact KR.mk _ _
  · rw [if_neg h, if_pos g]; exact KR.mk _ _
  · rw [if_neg h, if_neg g]; exact KR.mk _ _
theorem c35 {b3 : Nat} {cum a b : Int} (h : w.heap[b3]? = some (.cells #[.int .u32 cum] 30 (0, 0))) : Calls Try.prog 35 #[.int .u32 a, .int .u32 b, .pointer (some ⟨b3, 0, none⟩)] w (rt (KR (.int .i64 (cmpI (dif cum a) (dif cum b))) w.drew)) := by
  refine F35_ok ?_
  unfold F35
  simp only [rdI_mk, rdA_mk]
  unfold drw
  have h' : w.drew.heap[b3]? = some (.cells #[.int .u32 cum] 30 (0, 0)) := h
  refine ⟨w.drew, Pres.refl _, ?_⟩
  refine ldI_at h' rfl (ldI_at h' rfl ?_)
  refine clr (c33 _ _ _) ⟨_, rfl, Pres.refl _, ?_⟩
  refine clr (c33 _ _ _) ⟨_, rfl, ?_⟩
  exact clr (c36 _ _ _) ⟨_, rfl, KR.mk _ _⟩
abbrev U32 := Fin 4294967296
def u32V (x : U32) : Value := .int .u32 (x.val : Int)
def toU (t : Int) : U32 := ⟨(t % 4294967296).toNat, by omega⟩
theorem toU_val {t : Int} (h : 0 ≤ t ∧ t < 4294967296) : ((toU t).val : Int) = t := by
  show (((t % 4294967296).toNat : Nat) : Int) = t
  omega
def cfD (cum : Int) (x y : U32) : Int := cmpI (dif cum x.val) (dif cum y.val)
theorem ltD (cum : Int) (x y : U32) : ltOf (cfD cum) x y = decide (dif cum x.val < dif cum y.val) := by
  unfold ltOf cfD cmpI
  by_cases h : dif cum x.val < dif cum y.val
  · simp [h]
  · rw [if_neg h]
    split <;> simp [h]
theorem swoD (cum : Int) : Sort.SWO (ltOf (cfD cum)) where
  irrefl x := by rw [ltD]; simp
  trans x y z h1 h2 := by rw [ltD] at *; simp only [decide_eq_true_eq] at *; omega
  ntrans x y z h1 h2 := by rw [ltD] at *; simp only [decide_eq_false_iff_not] at *; omega
def leD (cum : Int) (a b : Int) : Bool := decide (dif cum a ≤ dif cum b)
theorem eq_strict {k : Int → Int} : ∀ {a b : List Int}, a.Pairwise (fun x y => k x < k y) → b.Pairwise (fun x y => k x < k y) → (∀ x, x ∈ a ↔ x ∈ b) → a = b
  | [], [], _, _, _ => rfl
  | [], y :: b, _, _, h => by have := (h y).2 (by simp); simp at this
  | x :: a, [], _, _, h => by have := (h x).1 (by simp); simp at this
  | x :: a, y :: b, ha, hb, h => by
    rw [List.pairwise_cons] at ha hb
    have hxy : x = y := by
      have h1 := (h x).1 (by simp)
      have h2 := (h y).2 (by simp)
      rcases List.mem_cons.1 h1 with e | e
      · exact e
      · rcases List.mem_cons.1 h2 with e' | e'
        · exact e'.symm
        · have q1 := hb.1 x e
          have q2 := ha.1 y e'
          omega
    subst hxy
    have : a = b := eq_strict ha.2 hb.2 fun z => by
      constructor
      · intro hz
        rcases List.mem_cons.1 ((h z).1 (by simp [hz])) with e | e
        · subst e; have := ha.1 z hz; omega
        · exact e
      · intro hz
        rcases List.mem_cons.1 ((h z).2 (by simp [hz])) with e | e
        · subst e; have := hb.1 z hz; omega
        · exact e
    rw [this]
theorem leD_tr (cum a b c : Int) (h : leD cum a b = true) (g : leD cum b c = true) : leD cum a c = true := by
  unfold leD at *
  simp only [decide_eq_true_eq] at *
  omega
theorem leD_tot (cum a b : Int) : (leD cum a b || leD cum b a) = true := by
  unfold leD
  rw [Bool.or_eq_true, decide_eq_true_eq, decide_eq_true_eq]
  omega
theorem strictD {cum : Int} {l : List Int} (hn : l.Nodup) (hr : ∀ t ∈ l, 0 ≤ t ∧ t < 4294967296) (h : l.Pairwise fun a b => dif cum a ≤ dif cum b) : l.Pairwise fun a b => dif cum a < dif cum b := by
  refine List.Pairwise.imp_of_mem ?_ (h.and hn)
  rintro a b ha hb ⟨h1, h2⟩
  have h2 : a ≠ b := h2
  have : dif cum a ≠ dif cum b := fun e => h2 (dif_inj (hr a ha) (hr b hb) e)
  omega
theorem sortD {cum : Int} {g g' : List Int} (hn : g.Nodup) (hr : ∀ t ∈ g, 0 ≤ t ∧ t < 4294967296) (hp : ∀ t, t ∈ g ↔ t ∈ g') (hn' : g'.Nodup) : ((g.map toU).mergeSort fun x y => !ltOf (cfD cum) y x).map (fun x : U32 => (x.val : Int)) = g'.mergeSort (leD cum) := by
  have hmap : (g.map toU).map (fun x : U32 => (x.val : Int)) = g := by
    rw [List.map_map]
    refine (List.map_congr_left fun t ht => ?_).trans (List.map_id _)
    exact toU_val (hr t ht)
  have hp1 := List.mergeSort_perm (g.map toU) fun x y => !ltOf (cfD cum) y x
  have hp2 : (((g.map toU).mergeSort fun x y => !ltOf (cfD cum) y x).map fun x : U32 => (x.val : Int)).Perm g := by
    have := hp1.map fun x : U32 => (x.val : Int)
    rwa [hmap] at this
  have hp3 := List.mergeSort_perm g' (leD cum)
  have hr' : ∀ t ∈ g', 0 ≤ t ∧ t < 4294967296 := fun t ht => hr t ((hp t).2 ht)
  refine eq_strict (k := dif cum) (strictD (hp2.nodup_iff.2 hn) (fun t ht => hr t (hp2.mem_iff.1 ht)) ?_) (strictD (hp3.nodup_iff.2 hn') (fun t ht => hr' t (hp3.mem_iff.1 ht)) ?_) fun x => ?_
  · rw [List.pairwise_map]
    refine (List.pairwise_mergeSort (le := fun x y => !ltOf (cfD cum) y x) (fun a b c h1 h2 => ?_) (fun a b => ?_) _).imp fun {a b} h => ?_
    · rw [ltD] at *
      simp only [Bool.not_eq_true', decide_eq_false_iff_not] at *
      omega
    · rw [ltD, ltD]
      simp only [Bool.or_eq_true, Bool.not_eq_true', decide_eq_false_iff_not]
      omega
    · rw [ltD] at h
      simp only [Bool.not_eq_true', decide_eq_false_iff_not] at h
      omega
  · refine (List.pairwise_mergeSort (leD_tr cum) (leD_tot cum) g').imp fun {a b} h => ?_
    unfold leD at h
    simpa using h
  · rw [hp2.mem_iff, hp3.mem_iff, hp]
/-- Go's sort by distances -/
theorem c34 {b3 : Nat} {cum : Int} {a : Option Addr} {cc : Nat} {g : List Int} (hr : ∀ t ∈ g, 0 ≤ t ∧ t < 4294967296) (hl : g.length ≤ 4294967296) (h : Hs W (slP 30 1 a g.length cc (inV .u32 g) :: pt b3 (.cells #[.int .u32 cum] 30 (0, 0)) :: L) w) :
    Calls Try.prog 34 #[.slice a g.length cc, .func (.func 35) #[] #[.pointer (some ⟨b3, 0, none⟩)]] w (rt fun v w' => v = .tuple #[] ∧ Hs W (slP 30 1 a g.length cc (inV .u32 (((g.map toU).mergeSort fun x y => !ltOf (cfD cum) y x).map fun x : U32 => (x.val : Int))) :: pt b3 (.cells #[.int .u32 cum] 30 (0, 0)) :: L) w') := by
  cases hg : g with
  | nil =>
    rw [hg] at h
    have h0 := AnyF.slices_SortFunc_none (P := Try.prog) { sortBy with } a cc (.func (.func 35) #[] #[.pointer (some ⟨b3, 0, none⟩)]) w
    change Calls Try.prog 34 _ _ _ at h0
    refine h0.mono ?_
    rintro e w' ⟨rfl, rfl⟩
    exact ⟨_, rfl, rfl, by simpa using h⟩
  | cons x r =>
    rw [← hg]
    have hlen : g.length ≠ 0 := by rw [hg]; simp
    rcases Own.cases (h.own 0 rfl) with ⟨_, hz, _⟩ | ⟨blk, cur, rfl, _⟩
    · exact absurd hz hlen
    have hne : b3 ≠ blk := by
      intro e
      have hd : Dm (slP 30 1 (some ⟨blk, 0, none⟩) g.length cc (inV .u32 g)) [blk] := fun x hx => ⟨by simp, fun k => by
        rw [inB_of hx k]
        simp [inB, eq_comm]⟩
      exact h.apart (i := 0) (j := 1) (by decide) rfl rfl hd (Dm.pt b3 _) blk (by simp) (by simp [e])
    have hb3 := h.at 1 rfl
    have hV : (g.map toU).toArray.toList.map u32V = inV .u32 g := by
      show ((g.map toU).map u32V) = _
      unfold inV
      rw [List.map_map]
      refine List.map_congr_left fun t ht => ?_
      show Value.int .u32 _ = _
      rw [toU_val (hr t ht)]
    have hsz : (g.map toU).toArray.size = g.length := by simp
    have h' : Hs W (slP 30 1 (some ⟨blk, 0, none⟩) (g.map toU).toArray.size cc ((g.map toU).toArray.toList.map u32V) :: pt b3 (.cells #[.int .u32 cum] 30 (0, 0)) :: L) w := by rw [hV, hsz]; exact h
    obtain ⟨hH, hb⟩ := holds_own1 h' 0 rfl
    have eg : ∀ args w, (callFunc 35 args).run Try.prog w = .ok (.enter 35 args) w := fun args w => run_callFunc (by kernel_rfl) args w
    have key := Any.slices_SortFunc_total (P := Try.prog) sortBy u32V (fun _ => rfl) (cfD cum) (swoD cum) 35 #[.pointer (some ⟨b3, 0, none⟩)] blk 0 cc (g.map toU).toArray w eg (fun m os dk _ x y => by
      have := c35 (a := x.val) (b := y.val) (sortWorld_other (enc := u32V) (blk := blk) (m := m) (d := dk) (os := os) hb3 hne)
      refine this.mono ?_
      rintro e w' ⟨v, rfl, rfl, rfl⟩
      exact ⟨rfl, 1, #[], by rw [Sort.grow_empty]; rfl⟩) hH hb (by rw [hsz]; omega) (fun x y h1 h2 => by
      rw [ltD] at h1 h2
      simp only [decide_eq_false_iff_not] at h1 h2
      have : (x.val : Int) = y.val := dif_inj (c := cum) (by omega) (by omega) (by omega)
      exact Fin.ext (by omega))
    change Calls Try.prog 34 _ _ _ at key
    rw [hsz] at key
    refine key.mono ?_
    rintro e w' ⟨rfl, n, os, rfl⟩
    refine ⟨_, rfl, rfl, ?_⟩
    have h2 := h'.sorted1 0 rfl (d' := ((g.map toU).toArray.toList.mergeSort fun x y => !ltOf (cfD cum) y x).toArray) (by simp [List.length_mergeSort]) n os
    have e2 : ((g.map toU).toArray.toList.mergeSort fun x y => !ltOf (cfD cum) y x).toArray.toList.map u32V = inV .u32 (((g.map toU).mergeSort fun x y => !ltOf (cfD cum) y x).map fun x : U32 => (x.val : Int)) := by
      unfold inV
      rw [List.map_map]
      rfl
    rw [e2, hsz] at h2
    exact h2
end
end Go.Proofs.Ytaflmpbeonoilaa
