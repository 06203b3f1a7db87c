/-
  Timers, sorted: Go's own sort at its shelf's contract.
-/
import Derived.Test.YtdagfdejjfobhaaTmI
import Derived.Test.YtdagfdejjfobhaaShSo
import Derived.Shelf.SlSortCmp.NoneTotal
namespace Go.Proofs.Ytdagfdejjfobhaa
open Go Go.Sh Go.Tm
def sortDue_ren : Go.Shelf.Ren := ⟨fun | 6 => 41 | 15 => 44 | 14 => 43 | 28 => 53 | 29 => 54 | 20 => 45 | 21 => 46 | 22 => 47 | 23 => 48 | 24 => 49 | 25 => 50 | 26 => 51 | 27 => 52 | 46 => 55 | 47 => 56 | 48 => 57 | 49 => 58 | 50 => 59 | 57 => 60 | n => n, fun | 22 => 22 | 24 => 30 | 25 => 60 | 3 => 3 | 39 => 79 | 0 => 0 | 53 => 88 | 55 => 90 | 4 => 4 | 46 => 82 | 45 => 81 | 50 => 55 | 5 => 5 | 9 => 9 | 66 => 91 | 70 => 95 | 76 => 97 | 77 => 98 | n => n, fun | n => n⟩
theorem sortDue : Go.Proofs.SlLaysF0.n6 Try.prog sortDue_ren :=
  {
    mixed := by kernel_rfl,
    f6 := ⟨Try.f41.name, by decide, Try.func41.trans (congrArg some (by kernel_rfl))⟩,
    f14 := ⟨Try.f43.name, by decide, Try.func43.trans (congrArg some (by kernel_rfl))⟩,
    f15 := Try.func44.trans (congrArg some (by kernel_rfl)),
    f20 := ⟨Try.f45.name, by decide, Try.func45.trans (congrArg some (by kernel_rfl))⟩,
    f21 := ⟨Try.f46.name, by decide, Try.func46.trans (congrArg some (by kernel_rfl))⟩,
    f22 := ⟨Try.f47.name, by decide, Try.func47.trans (congrArg some (by kernel_rfl))⟩,
    f23 := ⟨Try.f48.name, by decide, Try.func48.trans (congrArg some (by kernel_rfl))⟩,
    f24 := ⟨Try.f49.name, by decide, Try.func49.trans (congrArg some (by kernel_rfl))⟩,
    f25 := ⟨Try.f50.name, by decide, Try.func50.trans (congrArg some (by kernel_rfl))⟩,
    f26 := ⟨Try.f51.name, by decide, Try.func51.trans (congrArg some (by kernel_rfl))⟩,
    f27 := ⟨Try.f52.name, by decide, Try.func52.trans (congrArg some (by kernel_rfl))⟩,
    f28 := Try.func53.trans (congrArg some (by kernel_rfl)),
    f29 := Try.func54.trans (congrArg some (by kernel_rfl)),
    f46 := ⟨Try.f55.name, by decide, Try.func55.trans (congrArg some (by kernel_rfl))⟩,
    f47 := Try.func56.trans (congrArg some (by kernel_rfl)),
    f48 := Try.func57.trans (congrArg some (by kernel_rfl)),
    f49 := ⟨Try.f58.name, by decide, Try.func58.trans (congrArg some (by kernel_rfl))⟩,
    f50 := ⟨Try.f59.name, by decide, Try.func59.trans (congrArg some (by kernel_rfl))⟩,
    f57 := ⟨Try.f60.name, by decide, Try.func60.trans (congrArg some (by kernel_rfl))⟩,
    t0 := Try.underlying0,
    a0 := Try.isAgg0,
    z0 := Try.sizeOf0,
    v0 := Try.zeroValue0,
    t3 := Try.underlying3,
    a3 := Try.isAgg3,
    z3 := Try.sizeOf3,
    v3 := Try.zeroValue3,
    t4 := Try.underlying4,
    a4 := Try.isAgg4,
    z4 := Try.sizeOf4,
    v4 := Try.zeroValue4,
    t5 := Try.underlying5,
    a5 := Try.isAgg5,
    z5 := Try.sizeOf5,
    v5 := Try.zeroValue5,
    t9 := Try.underlying9,
    a9 := Try.isAgg9,
    z9 := Try.sizeOf9,
    v9 := Try.zeroValue9,
    t22 := Try.underlying22,
    a22 := Try.isAgg22,
    z22 := Try.sizeOf22,
    v22 := Try.zeroValue22,
    t25 := Try.underlying60,
    a25 := Try.isAgg60,
    z25 := Try.sizeOf60,
    v25 := Try.zeroValue60,
    t39 := Try.underlying79,
    a39 := Try.isAgg79,
    z39 := Try.sizeOf79,
    v39 := Try.zeroValue79,
    t45 := Try.underlying81,
    a45 := Try.isAgg81,
    z45 := Try.sizeOf81,
    v45 := Try.zeroValue81,
    t46 := Try.underlying82,
    a46 := Try.isAgg82,
    z46 := Try.sizeOf82,
    v46 := Try.zeroValue82,
    t50 := Try.underlying55,
    a50 := Try.isAgg55,
    z50 := Try.sizeOf55,
    v50 := Try.zeroValue55,
    t53 := Try.underlying88,
    a53 := Try.isAgg88,
    z53 := Try.sizeOf88,
    v53 := Try.zeroValue88,
    t55 := Try.underlying90,
    a55 := Try.isAgg90,
    z55 := Try.sizeOf90,
    v55 := Try.zeroValue90,
    t66 := Try.underlying91,
    a66 := Try.isAgg91,
    z66 := Try.sizeOf91,
    v66 := Try.zeroValue91,
    t70 := Try.underlying95,
    a70 := Try.isAgg95,
    z70 := Try.sizeOf95,
    v70 := Try.zeroValue95,
    t76 := Try.underlying97,
    a76 := Try.isAgg97,
    z76 := Try.sizeOf97,
    v76 := Try.zeroValue97,
    t77 := Try.underlying98,
    a77 := Try.isAgg98,
    z77 := Try.sizeOf98,
    v77 := Try.zeroValue98
  }

def le (x y : Du) : Bool := decide (¬ lt y x)
/-- a world that has grown -/
def Gr (w w' : World) : Prop := ∃ q os, w' = Sort.grow (w.drewN q) os
theorem Gr.alloc {w w' : World} (h : Gr w w') (o : Obj) : Gr w (w'.alloc o) := by
  obtain ⟨q, os, rfl⟩ := h
  exact ⟨q, os ++ #[o], by rw [Sort.alloc_eq_grow, Sort.grow_grow]⟩
theorem Gr.drew {w w' : World} (h : Gr w w') : Gr w w'.drew := by
  obtain ⟨q, os, rfl⟩ := h
  exact ⟨q + 1, os, rfl⟩
theorem Gr.refl (w : World) : Gr w w := ⟨0, #[], by simp [World.drewN]⟩
theorem alcG {V V0 w : World} {L : List HP} {o : Obj} {K : Nat → World → Prop} (h : Hs V L w) (g : Gr V0 w) (hk : ∀ b w', Hs V (pt b o :: L) w' → Gr V0 w' → K b w') : alc o w K := hk _ _ (h.alloc o) (g.alloc o)
theorem drwG {V V0 w : World} {L : List HP} {K : World → Prop} (h : Hs V L w) (g : Gr V0 w) (hk : ∀ w', Hs V L w' → Gr V0 w' → K w') : drw w K := hk _ h.drew g.drew
theorem c21x (a b : Du) (w : World) : Calls Try.prog 21 #[.agg #[.int .i64 a.1, .int .i64 a.2], .agg #[.int .i64 b.1, .int .i64 b.2]] w (rt fun v w' => v = .int .i64 (ordI a b) ∧ Gr w w') := by
  refine F21_ok ?_
  unfold F21
  refine ⟨a.1, a.2, rfl, b.1, b.2, rfl, ?_⟩
  refine alcG (Hs.start w) (Gr.refl w) fun b5 w1 h1 g1 => alcG h1 g1 fun b7 w2 h2 g2 => drwG h2 g2 fun w3 h3 g3 => ?_
  refine ⟨w3, Pres.refl _, ?_⟩
  simp only [add_mk]
  refine h3.ldI 1 rfl rfl (h3.ldI 0 rfl rfl (h3.ldI 1 rfl rfl (h3.ldI 0 rfl rfl ?_)))
  refine clr (c37 _ _ w3) ⟨_, rfl, Pres.refl _, ?_⟩
  refine clr (c37 _ _ w3) ⟨_, rfl, ?_⟩
  refine alcG h3 g3 fun b21 w4 h4 g4 => ?_
  refine clr (c36 (h4.at 0 rfl)) ⟨_, rfl, ?_⟩
  exact ⟨rfl, g4⟩
theorem ltOf_ord (x y : Du) : ltOf ordI x y = decide (lt x y) := by
  unfold ltOf
  exact ordI_lt x y
theorem swo : Sort.SWO (ltOf ordI) where
  irrefl x := by rw [ltOf_ord]; simp [lt_irrefl]
  trans x y z h1 h2 := by rw [ltOf_ord] at *; simp only [decide_eq_true_eq] at *; unfold lt at *; omega
  ntrans x y z h1 h2 := by rw [ltOf_ord] at *; simp only [decide_eq_false_iff_not] at *; unfold lt at *; omega
section
variable {W w : World} {L : List HP} {a : Option Addr} {c : Nat} {g : List Du}
theorem c41 (hs : Hs W (slP 30 2 a g.length c (duV g) :: L) w) (hg : g.length ≤ 1000000) :
    Calls Try.prog 41 #[.slice a g.length c, .func (.func 21) #[] #[]] w (rt fun v w' => v = .tuple #[] ∧ Hs W (slP 30 2 a g.length c (duV (g.mergeSort le)) :: L) w') := by
  cases g with
  | nil =>
    have h0 := AnyF.slices_SortFunc_none (P := Try.prog) sortDue a c (.func (.func 21) #[] #[]) w
    change Calls Try.prog 41 _ _ _ at h0
    refine h0.mono ?_
    rintro e w' ⟨rfl, rfl⟩
    exact ⟨_, rfl, rfl, by simpa using hs⟩
  | cons d r =>
    obtain ⟨g, hg0⟩ : ∃ g, g = d :: r := ⟨_, rfl⟩
    have hlen : g.length ≠ 0 := by rw [hg0]; simp
    rw [← hg0] at hs hg ⊢
    have ho := hs.own 0 rfl
    rcases Own.cases ho with ⟨_, hz, _⟩ | ⟨blk, cur, rfl, _⟩
    · exact absurd hz hlen
    have hs' : Hs W (slP 30 2 (some ⟨blk, 0, none⟩) g.toArray.size c (g.toArray.toList.flatMap du) :: L) w := hs
    obtain ⟨hH, hb⟩ := holds_own du_len hs' 0 rfl
    have eg : ∀ args w, (callFunc 21 args).run Try.prog w = .ok (.enter 21 args) w := fun args w => run_callFunc (by kernel_rfl) args w
    have key := AnyQ.slices_SortFunc_total (P := Try.prog) sortDue 2 (fun w => Try.isAgg30 w) (fun w => Try.sizeOf30 w) du du_len (fun x v hv => du_one x v hv) ordI swo 21 #[] blk 0 c g.toArray w eg (fun m os dk _ x y => by
      have := c21x x y (sortWorldK du 2 w blk 0 m dk os)
      refine this.mono ?_
      rintro e w' ⟨v, rfl, rfl, q, os', rfl⟩
      exact ⟨rfl, q, os', rfl⟩) hH hb (by simp; omega) (fun x y h1 h2 => by
      rw [ltOf_ord] at h1 h2
      simp only [decide_eq_false_iff_not] at h1 h2
      unfold lt at h1 h2
      exact Prod.ext (by omega) (by omega))
    change Calls Try.prog 41 _ _ _ at key
    refine key.mono ?_
    rintro e w' ⟨rfl, n, os, rfl⟩
    refine ⟨_, rfl, rfl, ?_⟩
    have e1 : (fun x y => !ltOf ordI y x) = le := by
      funext x y
      rw [ltOf_ord]
      unfold le
      simp
    rw [e1]
    have := hs'.sorted du_len 0 rfl (d' := (g.toArray.toList.mergeSort le).toArray) (by simp [List.length_mergeSort]) n os
    exact this
end
end Go.Proofs.Ytdagfdejjfobhaa
