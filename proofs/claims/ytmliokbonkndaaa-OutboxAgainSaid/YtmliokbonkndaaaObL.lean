/-
  Chunks that later ones of their paths have overtaken.
-/
import Derived.Test.YtmliokbonkndaaaObK
namespace Go.Proofs.Ytmliokbonkndaaa
open Go Go.Sh
def iV (N : Nat) (g : Nat → Int) : List Value := (List.range N).map fun p => .int .i64 (g p)
theorem iV_length (N : Nat) (g : Nat → Int) : (iV N g).length = N := by simp [iV]
theorem iV_at {N p : Nat} {g : Nat → Int} (h : p < N) : (iV N g)[p]? = some (.int .i64 (g p)) := rng_at (f := fun p => Value.int .i64 (g p)) h
theorem iV_set {N p : Nat} {g : Nat → Int} {x : Int} (h : p < N) : (iV N g).set p (.int .i64 x) = iV N fun k => if k = p then x else g k := by
  unfold iV
  rw [rng_set (f := fun p => Value.int .i64 (g p)) h]
  refine List.map_congr_left fun k _ => ?_
  show (if k = p then Value.int .i64 x else .int .i64 (g k)) = .int .i64 (if k = p then x else g k)
  split <;> rfl
theorem iV_congr {N : Nat} {f g : Nat → Int} (h : ∀ p < N, f p = g p) : iV N f = iV N g := by
  unfold iV
  refine List.map_congr_left fun p hp => by rw [h p (by simpa using hp)]
theorem zerosI (N : Nat) : (madeCells (Value.int .i64 0).cells (N * 1)).toList = iV N fun _ => 0 := by
  apply List.ext_getElem?
  intro i
  by_cases hi : i < N
  · rw [iV_at hi]
    simp [madeCells, Value.cells, Nat.mod_one, hi]
  · rw [List.getElem?_eq_none (by simp [madeCells]; omega), List.getElem?_eq_none (by rw [iV_length]; omega)]
/-- is it marked; what becomes of it -/
def mkdB (B : Bool) (e : En) : Bool := B && decide (IntKind.wrap .i64 (e.miss + 1) ≥ 3) && !e.qk
def quickF (B : Bool) (e : En) : En := if B = true then (if IntKind.wrap .i64 (e.miss + 1) ≥ 3 ∧ e.qk = false then { e with st := 2, miss := 0, qk := true } else { e with miss := IntKind.wrap .i64 (e.miss + 1) }) else e
structure QC where
  b4 : Nat
  b6 : Nat
  b12 : Nat
  rb : Nat
  la : Option Addr
  lc : Nat
  oa : Option Addr
  oc : Nat
  ta : Option Addr
  tc : Nat
  ga : Option Addr
  gc : Nat
  na : Option Addr
  nc : Nat
def QC.s (t : QC) (m : Nat) : R95 := ⟨t.ta, m, t.tc, t.ga, m, t.gc, t.na, m, t.nc⟩
def QC.prs (t : QC) (m N : Nat) (fr rn : Int) (nw : Nat → Bool) (lt : Nat → Int) (F : Nat → R52) : List HP :=
  [pt t.b4 (.cells (t.s m).c 96 (0, 0)), pt t.b6 (.cells #[.pointer (some ⟨t.rb, 0, none⟩)] 100 (0, 0)), pt t.b12 (.cells #[.slice t.la N t.lc] 125 (0, 0)), slP 3 1 t.la N t.lc (iV N lt), pt t.rb (.cells (R47.mk t.oa N t.oc fr rn).c 48 (0, 0)), slP 53 4 t.oa N t.oc (aV N F), slP 4 1 t.na m t.nc (bV m nw)]
def withL (F : Nat → R52) (p : Nat) (x : Int) : Nat → R52 := fun k => if k = p then ⟨(F p).f0, (F p).f1, (F p).f2, x⟩ else F k
section
variable {W w : World} {L M : List HP} {bb : Nat} {n cum : Int} {a la : Option Addr} {c lc : Nat} {es : List (Nat × En)} {b m : Nat} {e : En}
variable {T : QC} {N : Nat} {fr rn : Int} {nw : Nat → Bool} {lt : Nat → Int} {F : Nat → R52} {R : List HP} {q j p : Nat}
theorem c36_1 {e1 : En} {B : Bool} (hp : e1.path = (p : Int)) (hN : p < N) {Kn : Value → Value → Value → Value → World → Prop} (h : Hs W (entP (q, e1) :: (T.prs m N fr rn nw lt F ++ R)) w)
    (hK : ∀ w', Hs W (entP (q, if B = true then { e1.mk' with qk := true } else e1) :: (T.prs m N fr rn nw lt (if B = true then withL F p (IntKind.wrap .i64 ((F p).f3 + e1.data.length)) else F) ++ R)) w' → Kn (.pointer (some ⟨T.b4, 0, none⟩)) (.pointer (some ⟨T.b12, 0, none⟩)) (.int .i64 (j : Int)) (.pointer (some ⟨q, 0, none⟩)) w') :
    F36_1 Kn (.pointer (some ⟨T.b4, 0, none⟩)) (.pointer (some ⟨T.b6, 0, none⟩)) (.pointer (some ⟨T.b12, 0, none⟩)) (.int .i64 (j : Int)) (.pointer (some ⟨q, 0, none⟩)) (.bool B) w := by
  unfold F36_1
  simp only [rdI_mk, rdP_mk, rdA_mk, rdB_mk, add_mk, nn_some]
  cases B with
  | false => exact hK w h
  | true =>
    rw [br_true]
    refine cl (c54 (p := (q, e1)) (M := T.prs m N fr rn nw lt F ++ R) h) ?_
    rintro _ w1 ⟨rfl, h2⟩
    refine ⟨rfl, ?_⟩
    obtain ⟨da, dc, h2⟩ := ent_open h2
    refine h2.stc 0 rfl (by simp [R57.c]) fun w2 h3 => ?_
    have h3 := ent_close (p := (q, { e1.mk' with qk := true })) (da := da) (dc := dc) h3
    refine h3.drw fun w3 h4 => ⟨w3, Pres.refl _, ?_⟩
    have h4 : Hs W (entP (q, { e1.mk' with qk := true }) :: (T.prs m N fr rn nw lt F ++ R)) w3 := h4
    refine h4.ldP 2 rfl rfl ?_
    simp only [nn_some, add_mk]
    refine h4.ldC 5 rfl rfl ?_
    obtain ⟨qa, qc, hq⟩ := re_fld (ent_re h4)
    refine ldI_at hq rfl ?_
    have hr := h4.rd 6 rfl
    show ixS 4 T.oa N e1.path _
    obtain ⟨od, ho⟩ := hr.some (by rw [aV_length]; omega)
    rw [ho] at hr ⊢
    refine ixS_to hp hN ?_
    refine ldI_c (by rw [add_add]; exact hr.at (aV_at (j := 3) hN rfl)) ?_
    refine clr (c60 (ent_re h4)) ⟨_, rfl, Pres.refl _, ?_⟩
    show ixS 4 (some od) N e1.path _
    refine ixS_to hp hN ?_
    rw [add_add]
    have h4' : Hs W (entP (q, { e1.mk' with qk := true }) :: pt T.b4 (.cells (T.s m).c 96 (0, 0)) :: pt T.b6 (.cells #[.pointer (some ⟨T.rb, 0, none⟩)] 100 (0, 0)) :: pt T.b12 (.cells #[.slice T.la N T.lc] 125 (0, 0)) :: slP 3 1 T.la N T.lc (iV N lt) :: pt T.rb (.cells (R47.mk T.oa N T.oc fr rn).c 48 (0, 0)) :: slP 53 4 (some od) N T.oc (aV N F) :: slP 4 1 T.na m T.nc (bV m nw) :: R) w3 := by rw [← ho]; exact h4
    refine h4'.put 6 rfl (by rw [aV_length]; omega) fun w4 h5 => ?_
    rw [aV_set (x := ⟨(F p).f0, (F p).f1, (F p).f2, IntKind.wrap .i64 ((F p).f3 + e1.data.length)⟩) hN (by decide) rfl] at h5
    refine hK w4 ?_
    rw [if_pos rfl, if_pos rfl]
    have h5 : Hs W (entP (q, { e1.mk' with qk := true }) :: pt T.b4 (.cells (T.s m).c 96 (0, 0)) :: pt T.b6 (.cells #[.pointer (some ⟨T.rb, 0, none⟩)] 100 (0, 0)) :: pt T.b12 (.cells #[.slice T.la N T.lc] 125 (0, 0)) :: slP 3 1 T.la N T.lc (iV N lt) :: pt T.rb (.cells (R47.mk T.oa N T.oc fr rn).c 48 (0, 0)) :: slP 53 4 (some od) N T.oc (aV N (withL F p (IntKind.wrap .i64 ((F p).f3 + e1.data.length)))) :: slP 4 1 T.na m T.nc (bV m nw) :: R) w4 := h5
    rw [← ho] at h5
    exact h5
theorem c36_2 {e1 : En} {B : Bool} (hp : e1.path = (p : Int)) (hN : p < N) {Kn : Value → Value → Value → Value → World → Prop} (h : Hs W (entP (q, e1) :: (T.prs m N fr rn nw lt F ++ R)) w)
    (hK : ∀ w', Hs W (entP (q, quickF B e1) :: (T.prs m N fr rn nw lt (if mkdB B e1 = true then withL F p (IntKind.wrap .i64 ((F p).f3 + e1.data.length)) else F) ++ R)) w' → Kn (.pointer (some ⟨T.b4, 0, none⟩)) (.pointer (some ⟨T.b12, 0, none⟩)) (.int .i64 (j : Int)) (.pointer (some ⟨q, 0, none⟩)) w') :
    F36_2 Kn (.pointer (some ⟨T.b4, 0, none⟩)) (.pointer (some ⟨T.b6, 0, none⟩)) (.pointer (some ⟨T.b12, 0, none⟩)) (.int .i64 (j : Int)) (.pointer (some ⟨q, 0, none⟩)) (.bool B) w := by
  unfold F36_2
  simp only [rdI_mk, rdP_mk, rdA_mk, rdB_mk, add_mk, nn_some]
  cases B with
  | false => exact hK w h
  | true =>
    rw [br_true]
    obtain ⟨da, dc, h2⟩ := ent_open h
    refine h2.ldI 0 rfl rfl (h2.stc 0 rfl (by simp [R57.c]) fun w2 h3 => ?_)
    have h3 := ent_close (p := (q, { e1 with miss := IntKind.wrap .i64 (e1.miss + 1) })) (da := da) (dc := dc) h3
    obtain ⟨qa, qc, hq⟩ := re_fld (ent_re h3)
    refine ldI_at hq rfl ?_
    show br (decide (IntKind.wrap .i64 (e1.miss + 1) ≥ 3)) _ _
    rw [br_dec]
    refine ⟨fun h3m => ?_, fun h3m => ?_⟩
    · refine ldB_at hq rfl ?_
      refine c36_1 (B := !e1.qk) (e1 := { e1 with miss := IntKind.wrap .i64 (e1.miss + 1) }) hp hN h3 fun w4 h4 _g => ?_
      simp only [rdI_mk, rdP_mk, rdA_mk]
      refine hK w4 ?_
      unfold quickF mkdB
      cases hqk : e1.qk <;> simpa [hqk, h3m, En.mk'] using h4
    · refine c36_1 (e1 := { e1 with miss := IntKind.wrap .i64 (e1.miss + 1) }) hp hN h3 fun w4 h4 _g => ?_
      simp only [rdI_mk, rdP_mk, rdA_mk]
      refine hK w4 ?_
      unfold quickF mkdB
      simpa [h3m] using h4
def latS (v : Bool) (e : En) (lt : Nat → Int) : Nat → Int := fun p => if v = true ∧ e.path = (p : Int) then (if e.sent > lt p then e.sent else lt p) else lt p
theorem c36_3 {e1 : En} (hj : j < m) (hp : e1.path = (p : Int)) (hN : p < N) {Kn : World → Prop} (h : Hs W (entP (q, e1) :: (T.prs m N fr rn nw lt F ++ R)) w)
    (hK : ∀ w', Hs W (entP (q, e1) :: (T.prs m N fr rn nw (latS (nw j) e1 lt) F ++ R)) w' → Kn w') :
    F36_3 Kn (.pointer (some ⟨T.b4, 0, none⟩)) (.pointer (some ⟨T.b12, 0, none⟩)) (.int .i64 (j : Int)) (.pointer (some ⟨q, 0, none⟩)) w := by
  unfold F36_3
  simp only [rdI_mk, rdP_mk, rdA_mk, add_mk, nn_some]
  refine h.ldC 1 rfl rfl ?_
  have hr := h.rd 7 rfl
  show ixS 1 T.na m _ _
  obtain ⟨nd, hn⟩ := hr.some (by rw [bV_length]; omega)
  rw [hn] at hr ⊢
  refine ixS_to rfl hj ?_
  rw [Nat.mul_one]
  refine ldB_c (hr.at (bV_at hj)) ?_
  cases hb : nw j with
  | false =>
    rw [br_false]
    refine hK w ?_
    rw [show latS (nw j) e1 lt = lt from by funext k; unfold latS; rw [if_neg (by rw [hb]; simp)]]
    exact h
  | true =>
    rw [br_true]
    refine h.drw fun w1 h1 => ?_
    refine h1.ldC 3 rfl rfl ?_
    obtain ⟨qa, qc, hq⟩ := re_fld (ent_re h1)
    refine ldI_at hq rfl (h1.ldC 3 rfl rfl (ldI_at hq rfl ?_))
    have hrl := h1.rd 4 rfl
    show ixS 1 T.la N e1.path _
    obtain ⟨ld, hl⟩ := hrl.some (by rw [iV_length]; omega)
    rw [hl] at hrl ⊢
    refine ixS_to hp hN ?_
    rw [Nat.mul_one]
    refine ldI_c (hrl.at (iV_at hN)) (ldI_at hq rfl ⟨Pres.refl _, ?_⟩)
    show ixS 1 (some ld) N e1.path _
    refine ixS_to hp hN ?_
    rw [Nat.mul_one]
    have h1' : Hs W (entP (q, e1) :: pt T.b4 (.cells (T.s m).c 96 (0, 0)) :: pt T.b6 (.cells #[.pointer (some ⟨T.rb, 0, none⟩)] 100 (0, 0)) :: pt T.b12 (.cells #[.slice T.la N T.lc] 125 (0, 0)) :: slP 3 1 (some ld) N T.lc (iV N lt) :: pt T.rb (.cells (R47.mk T.oa N T.oc fr rn).c 48 (0, 0)) :: slP 53 4 T.oa N T.oc (aV N F) :: slP 4 1 T.na m T.nc (bV m nw) :: R) w1 := by rw [← hl]; exact h1
    refine h1'.put 4 rfl (by rw [iV_length]; omega) fun w2 h2 => ?_
    rw [iV_set hN] at h2
    have ec : iV N (fun k => if k = p then (if e1.sent > lt p then e1.sent else lt p) else lt k) = iV N (latS (nw j) e1 lt) := iV_congr fun k hk => by
      unfold latS
      by_cases hkp : k = p
      · subst hkp
        rw [if_pos rfl, if_pos (c := nw j = true ∧ e1.path = (k : Int)) ⟨hb, hp⟩]
      · rw [if_neg hkp, if_neg (by rw [hp]; intro h; omega)]
    have h2 : Hs W (entP (q, e1) :: pt T.b4 (.cells (T.s m).c 96 (0, 0)) :: pt T.b6 (.cells #[.pointer (some ⟨T.rb, 0, none⟩)] 100 (0, 0)) :: pt T.b12 (.cells #[.slice T.la N T.lc] 125 (0, 0)) :: slP 3 1 (some ld) N T.lc (iV N (fun k => if k = p then (if e1.sent > lt p then e1.sent else lt p) else lt k)) :: pt T.rb (.cells (R47.mk T.oa N T.oc fr rn).c 48 (0, 0)) :: slP 53 4 T.oa N T.oc (aV N F) :: slP 4 1 T.na m T.nc (bV m nw) :: R) w2 := h2
    rw [ec, ← hl] at h2
    exact hK w2 (hb ▸ h2)
end
end Go.Proofs.Ytmliokbonkndaaa
