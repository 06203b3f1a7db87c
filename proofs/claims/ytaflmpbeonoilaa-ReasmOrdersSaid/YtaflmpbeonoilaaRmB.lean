/-
  Reading a table: what is held, what fits.
-/
import Derived.Test.YtaflmpbeonoilaaRmA
namespace Go.Proofs.Ytaflmpbeonoilaa
open Go Go.Sh
section
variable {W w : World} {L M : List HP} {tb mc mf : Nat} {hd : Int} {d : TD} {s : St} {es : List Ec}
abbrev pl (es : List Ec) : List Ch := es.map Ec.x
theorem c30 (x : R35) (m : Int) (w : World) : Calls Try.prog 30 #[x.v, .int .u8 m] w (rt fun v w' => v = .bool (hr x m) ∧ Same w w') := by
  refine F30_ok ?_
  unfold F30
  refine exR35_of x ⟨rfl, ?_⟩
  simp only [rdI_mk, add_mk]
  refine (Hs.start w).alc fun b w1 h1 => ?_
  refine h1.ldI 0 rfl rfl ?_
  exact ⟨rfl, h1.old⟩
/-- a table that can be read -/
structure RT (w : World) (tb mc mf : Nat) (es : List Ec) (F : List Int) : Prop where
  blk : ∃ cs, w.heap[tb]? = some (.cells cs 70 (0, 0)) ∧ cs[0]? = some (.map (some mc)) ∧ cs[1]? = some (.map (some mf))
  map : MapV .u32 w mc (cMap es)
  fix : MapV .u32 w mf (fMap F)
variable {F : List Int}
theorem RT.same {w' : World} (h : RT w tb mc mf es F) (hs : Same w w') : RT w' tb mc mf es F := by
  obtain ⟨⟨cs, h1, h2⟩, h3, h4⟩ := h
  exact ⟨⟨cs, hs.blk h1 fun x => x, h2⟩, h3.fr hs fun x => x, h4.fr hs fun x => x⟩
theorem tab_rt (h : Hs W (tabL tb hd d s ++ L) w) : RT w tb d.mc d.mf d.es s.F := ⟨⟨_, h.at 0 rfl, rfl, rfl⟩, h.mapv 1 rfl, h.mapv 2 rfl⟩
/-- what a look-up tells -/
theorem RT.look (h : RT w tb mc mf es F) (k : Int) : ∃ s : R35, (∀ ok, lookF Try.prog 30 36 (.map (some mc)) (.int .u32 k) ok w = some (if ok then .tuple #[s.v, .bool (look (pl es) k).isSome] else s.v)) ∧
    (∀ x, Go.Proofs.Ytaflmpbeonoilaa.look (pl es) k = some x → ∃ e, (es.find? fun e => e.x.tsn == k) = some e ∧ e.x = x ∧ s = e.rc) := by
  cases hl : Go.Proofs.Ytaflmpbeonoilaa.look (pl es) k with
  | none =>
    obtain ⟨_, hn⟩ := look_none hl
    refine ⟨R35.z, fun ok => ?_, fun x hx => by cases hx⟩
    cases ok with
    | true => rw [look_val_ok u30 z36 h.map, hn]; rfl
    | false => rw [look_val u30 z36 h.map, hn]; rfl
  | some x =>
    obtain ⟨e, he, hx, hn⟩ := look_map hl
    refine ⟨e.rc, fun ok => ?_, fun y hy => ?_⟩
    · have hn' : cMap es k = some e.rc.v := by unfold cMap; rw [he]; rfl
      cases ok with
      | true => rw [look_val_ok u30 z36 h.map, hn']; rfl
      | false => rw [look_val u30 z36 h.map, hn']; rfl
    · cases hy; exact ⟨e, he, hx, rfl⟩
theorem RT.ldC0 (h : RT w tb mc mf es F) {K : Option Nat → Prop} (hk : K (some mc)) : ldM (Addr.mk tb 0 none) w K := by
  obtain ⟨⟨cs, h1, h2, _⟩, _⟩ := h
  exact ldM_at h1 h2 hk
theorem RT.ldC1 (h : RT w tb mc mf es F) {K : Option Nat → Prop} (hk : K (some mf)) : ldM (Addr.mk tb 1 none) w K := by
  obtain ⟨⟨cs, h1, _, h2⟩, _⟩ := h
  exact ldM_at h1 h2 hk
theorem bt_false {b : Bool} {A B : Prop} (h : b = false) (k : B) : br b A B := by subst h; exact k
theorem bt_true {b : Bool} {A B : Prop} (h : b = true) (k : A) : br b A B := by subst h; exact k
theorem c51 (h : RT w tb mc mf es F) (a b : Int) : Calls Try.prog 51 #[.pointer (some ⟨tb, 0, none⟩), .int .u32 a, .int .u32 b] w (rt fun v w' => v = .bool (fitB (pl es) a b) ∧ Same w w') := by
  refine F51_ok ?_
  unfold F51
  simp only [rdP_mk, rdI_mk, nn_some, add_mk]
  refine h.ldC0 ?_
  obtain ⟨s1, h1, g1⟩ := h.look a
  refine exR35_of s1 ⟨_, h1 true, ?_⟩
  refine (Hs.start w).alc fun b8 w9 h9 => ?_
  refine h9.stcL 0 rfl rfl fun w10 h10 => ?_
  refine (h.same h10.old).ldC0 ?_
  obtain ⟨s2, h2, g2⟩ := (h.same h10.old).look b
  refine exR35_of s2 ⟨_, h2 true, ?_⟩
  refine h10.alc fun b15 w16 h16 => ?_
  refine h16.stcL 0 rfl rfl fun w17 h17 => ?_
  refine h17.drw fun w18 h18 => ?_
  have h18 : Hs w [pt b15 (.cells s2.c 36 (0, 0)), pt b8 (.cells s1.c 36 (0, 0))] w18 := h18
  refine ⟨w18, Pres.refl _, ?_⟩
  have no : ∀ {w' : World}, Same w w' → fitB (pl es) a b = false → Value.bool false = Value.bool (fitB (pl es) a b) ∧ Same w w' := fun hs e => ⟨by rw [e], hs⟩
  cases ha : look (pl es) a with
  | none =>
    rw [ha] at h1
    simp only [Option.isSome_none, br_false]
    exact no h18.old (by unfold fitB; rw [ha])
  | some x =>
  cases hb : look (pl es) b with
  | none =>
    simp only [Option.isSome_none, Option.isSome_some, br_false, br_true]
    exact no h18.old (by unfold fitB; rw [ha, hb])
  | some y =>
  simp only [Option.isSome_some, br_true]
  obtain ⟨e1, _, hx, rfl⟩ := g1 x ha
  obtain ⟨e2, _, hy, rfl⟩ := g2 y hb
  have hf : fitB (pl es) a b = fit2 x y := by unfold fitB; rw [ha, hb]
  have r1 : ∀ m, hr e1.rc m = x.has m := fun m => by rw [← hx]; rfl
  have r2 : ∀ m, hr e2.rc m = y.has m := fun m => by rw [← hy]; rfl
  rw [hf] at no ⊢
  refine ldR35_of (s := e2.rc) (h18.atL 0 rfl) ?_
  refine cl (c30 _ _ _) ?_
  rintro _ w21 ⟨rfl, s21⟩
  refine ⟨_, rfl, Pres.of_Same s21, ?_⟩
  have h21 := h18.same s21
  rw [r2]
  cases e2' : y.has 2 with
  | true =>
    simp only [Bool.not_true, br_false]
    exact no h21.old (by unfold fit2; rw [e2']; rfl)
  | false =>
  simp only [Bool.not_false, br_true]
  refine ldR35_of (s := e1.rc) (h21.atL 1 rfl) ?_
  refine cl (c30 _ _ _) ?_
  rintro _ w25 ⟨rfl, s25⟩
  have h25 := h21.same s25
  refine ⟨_, rfl, Pres.of_Same (s21.trans s25 fun _ _ x => x), ?_⟩
  rw [r1]
  cases e1' : x.has 1 with
  | true =>
    simp only [Bool.not_true, br_false]
    exact no h25.old (by unfold fit2; rw [e2', e1']; rfl)
  | false =>
  simp only [Bool.not_false, br_true]
  refine h25.ldI 1 rfl rfl (h25.ldI 0 rfl rfl ?_)
  have f3 : e1.rc.f3 = x.r.f3 := by rw [← hx]; rfl
  have f3' : e2.rc.f3 = y.r.f3 := by rw [← hy]; rfl
  have f4 : e1.rc.f4 = x.r.f4 := by rw [← hx]; rfl
  have f4' : e2.rc.f4 = y.r.f4 := by rw [← hy]; rfl
  rw [f3, f3']
  cases e3 : x.r.f3 == y.r.f3 with
  | false =>
    rw [br_false]
    exact no h25.old (by unfold fit2; rw [e2', e1', e3]; rfl)
  | true =>
  rw [br_true]
  refine h25.ldI 1 rfl rfl (h25.ldI 0 rfl rfl ?_)
  rw [f4, f4']
  cases e4 : x.r.f4 == y.r.f4 with
  | false =>
    rw [br_false]
    exact no h25.old (by unfold fit2; rw [e2', e1', e3, e4]; rfl)
  | true =>
  rw [br_true]
  refine ldR35_of (s := e1.rc) (h25.atL 1 rfl) ?_
  refine ldR35_of (s := e2.rc) (h18.atL 0 rfl) ?_
  refine cl (c30 _ _ _) ?_
  rintro _ w34 ⟨rfl, s34⟩
  refine ⟨_, rfl, Pres.of_Same ((s21.trans s25 fun _ _ x => x).trans s34 fun _ _ x => x), ?_⟩
  refine cl (c30 _ _ _) ?_
  rintro _ w37 ⟨rfl, s37⟩
  refine ⟨_, rfl, ?_, ((h25.same s34).same s37).old⟩
  rw [r1, r2]
  unfold fit2
  rw [e2', e1', e3, e4]
  rfl
end
end Go.Proofs.Ytaflmpbeonoilaa
