/- Own text: part of the shallow reading of the code and of the contracts that are proved over it. -/
import Derived.Test.YtccffjlahpfdaaaDoorIbS
namespace Go.Proofs.YtccffjlahpfdaaaDoor
open Go Go.Sh Go.Sp
section
variable {W w : World} {L : List HP} {bb rr : Nat} {D : BD} {R : RD} {x : BX}
theorem many_come {n : Nat} (hn : n ≤ 100000) (h : Many n x) (at_ : Int) : Many (n + 1) (x.come ((x.cum + at_) % 4294967296)) := by
  have := many_act hn h ⟨1, [at_], 0⟩
  exact this
theorem many_fix {n : Nat} (h : Many n x) (l : List Int) : Many n (x.fix l) := ⟨h.s, h.p0, h.p1⟩
theorem nr_come (t : Int) : (x.come t).nr = x.nr := by unfold BX.come; split <;> rfl
theorem c3_6 {Kr : Value → World → Prop} {z : BX} {R7 : RD} {D2 : BD} {w7 : World} {ma : Option Addr} {mc : Nat} {ms : List OpB} (ht : TB w) (hr2 : Rd w ma (ms.flatMap opB)) (hq2 : ∀ q ∈ ms, OpOk w q) {t : Int} (t0 : 0 ≤ t) (t1 : t < 4294967296)
    (h7 : Hs w (boxL bb D2 z ++ (refL rr R7 z ++ [])) w7) (o7 : OkX z) (m7 : Many 300 z) (nr7 : z.nr = true) (hheld : sd z.cum t > 0 → t ∈ z.fx) (hK : ∀ w', Same w w' → ∀ _g : Tm, Kr (.bool true) w') :
    F3_6 Kr (.slice ma ms.length mc) (.pointer (some ⟨bb, 0, none⟩)) (.pointer (some ⟨rr, 0, none⟩)) (.int .u32 t) w7 := by
  unfold F3_6
  simp only [rdI_mk, rdC_mk, rdP_mk]
  refine cl (c14 (Hs.flip.1 h7) o7) ?_
  rintro _ w8 ⟨a8, c8', rfl, o8, s8⟩
  refine ⟨_, _, _, rfl, ?_⟩
  have h8 := h7.same s8
  have fin : ∀ (b : Bool), (b = true → t ∈ z.fx) → F3_5 (fun y8_14 w16 => ∀ _g17 : Tm, rdB y8_14 fun b18 => Kr (.bool b18) w16) (.slice ma ms.length mc) (.pointer (some ⟨bb, 0, none⟩)) (.pointer (some ⟨rr, 0, none⟩)) (.int .u32 t) (.bool b) w8 := fun b hb =>
    c3_5 ht hr2 hq2 t0 t1 h8 o7 m7 nr7 hb fun w' s' _g => ⟨true, rfl, hK w' s' _g⟩
  rw [br_dec]
  refine ⟨fun _ => ?_, fun _ => fin false (fun h => by cases h)⟩
  have hR8 : Hs w (refL rr R7 z ++ (boxL bb D2 z ++ [])) w8 := Hs.flip.1 h8
  have hrz := box_RngX h8
  obtain ⟨cs8, hcs8, hc8⟩ := ref_cum hR8
  simp only [nn_some, add_mk]
  refine hR8.ldP 0 rfl rfl ?_
  simp only [nn_some, add_mk]
  refine ldI_at hcs8 hc8 (clr (c15 z.cum t w8 hrz.c0 hrz.c1 t0 t1) ⟨_, rfl, ?_⟩)
  exact fin _ fun hb => hheld (by simpa using hb)
theorem c3 {sa ma : Option Addr} {sc mc : Nat} {qs ms : List OpB} (ht : TB w) (hr : Rd w sa (qs.flatMap opB)) (hq : ∀ q ∈ qs, OpOk w q) (hr2 : Rd w ma (ms.flatMap opB)) (hq2 : ∀ q ∈ ms, OpOk w q) (first : Int) {at_ : Int} (ha : 0 ≤ at_ ∧ at_ ≤ 65535) :
    Calls Tryd.prog 3 #[.int .u32 first, .slice sa qs.length sc, .int .u16 at_, .slice ma ms.length mc] w (rt fun v w' => v = .bool true ∧ Same w w') := by
  refine F3_ok ?_
  unfold F3
  simp only [rdI_mk, rdC_mk]
  refine cl (c8 (L := []) ht hr hq (Hs.start w) first 0 true) ?_
  rintro _ w1 (⟨hN, _⟩ | ⟨hN, bb, D, rr, R, rfl, h1, o1⟩)
  · exact absurd (by decide) hN
  refine ⟨_, _, _, rfl, ?_⟩
  rw [Bool.not_true, br_false, Option.isNone_some, br_false]
  have hm := many_200 first 0 true qs
  have hnr : (runX (x0 first 0 true) (qs.take 200)).nr = true := nr_run _ _
  generalize runX (x0 first 0 true) (qs.take 200) = x at h1 o1 hm hnr
  have hrx := box_RngX h1
  have c0 := hrx.c0
  have c1 := hrx.c1
  unfold F3_7
  simp only [rdI_mk, rdC_mk, rdP_mk, nn_some, add_mk]
  have hR1 : Hs w (refL rr R x ++ (boxL bb D x ++ [])) w1 := Hs.flip.1 h1
  obtain ⟨cs, hcs, hc0⟩ := ref_cum hR1
  refine hR1.ldP 0 rfl rfl ?_
  simp only [nn_some, add_mk]
  have ewa : IntKind.wrap .u32 at_ = at_ := wrap_u32 (by omega) (by omega)
  rw [ewa]
  refine ldI_at hcs hc0 (clr (c9 x.cum at_ w1 c0 c1 ha.1 (by omega)) ⟨_, rfl, ?_⟩)
  have hheld := held_fix hrx ha.1 ha.2
  have hmc := many_come (by omega) hm at_
  have onew := come_ok o1 hrx ((x.cum + at_) % 4294967296)
  obtain ⟨t, hte⟩ : ∃ t, t = (x.cum + at_) % 4294967296 := ⟨_, rfl⟩
  have t0 : 0 ≤ t := by omega
  have t1 : t < 4294967296 := by omega
  rw [← hte] at hheld hmc onew ⊢
  refine cl (c10 ht h1 o1 t) ?_
  rintro _ w2 ⟨rfl, D2, h2⟩
  refine ⟨_, _, rfl, ?_⟩
  refine cl (c11 (Hs.flip.1 h2) o1 t0 t1) ?_
  rintro _ w3 ⟨rfl, R3, h3⟩
  refine ⟨_, _, rfl, ?_⟩
  have eB : ∀ x : Bool, (!(x == x)) = false := fun x => by simp
  rw [eB, br_false]
  have h3 : Hs w (boxL bb D2 (x.come t) ++ (refL rr R3 (x.come t) ++ [])) w3 := Hs.flip.1 h3
  have nr1 : (x.come t).nr = true := (nr_come t).trans hnr
  generalize x.come t = y at h3 hheld hmc onew nr1
  refine h3.alc fun g1 w4 h4 => ?_
  have h4 : Hs w (boxL bb D2 y ++ ([pt g1 (.cells #[.int .u32 t] 22 (0, 0))] ++ (refL rr R3 y ++ []))) w4 := Hs.grp (Gs := [[_], boxL bb D2 y, refL rr R3 y]) (L := []) (n := 3) h4 rfl [] [1, 0, 2] (by decide)
  refine cl (c12 ht (l := [t]) h4 onew (by simp) fun fx1 w5 h5 => rd_one (h5.at 4 rfl)) ?_
  rintro _ w5 ⟨rfl, h5⟩
  refine ⟨_, rfl, h5.alc fun g2 w6 h6 => ?_⟩
  have h6 : Hs w (refL rr R3 y ++ ([pt g2 (.cells #[.int .u32 t] 22 (0, 0))] ++ (boxL bb D2 (y.fix [t]) ++ []))) w6 := Hs.grp (Gs := [[_], boxL bb D2 (y.fix [t]), [_], refL rr R3 y]) (L := []) (n := 4) h6 rfl [2] [3, 0, 1] (by decide)
  refine cl (c13 (l := [t]) h6 onew (fun z hz => by simp at hz; subst hz; exact ⟨t0, t1⟩) (by simp) fun R1 fx1 w7 h7 => rd_one (h7.at 4 rfl)) ?_
  rintro _ w7 ⟨rfl, R7, h7⟩
  refine ⟨_, rfl, ?_⟩
  have eI : ∀ x : Int, (x != x) = false := fun x => by simp
  rw [eI, br_false]
  have h7 : Hs w (boxL bb D2 (y.fix [t]) ++ (refL rr R7 (y.fix [t]) ++ [])) w7 := Hs.grp (Gs := [refL rr R7 (y.fix [t]), [_], boxL bb D2 (y.fix [t])]) (L := []) (n := 3) h7 rfl [1] [2, 0] (by decide)
  have o7 := fix_ok onew [t]
  have m7 : Many 300 (y.fix [t]) := (many_fix hmc [t]).mono (by omega)
  have hcum : (y.fix [t]).cum = y.cum := rfl
  have nr7 : (y.fix [t]).nr = true := nr1
  rw [← hcum] at hheld
  generalize y.fix [t] = z at h7 o7 m7 nr7 hheld
  refine c3_6 ht hr2 hq2 t0 t1 h7 o7 m7 nr7 hheld fun w' s' _g => ?_
  intro _g
  exact ⟨true, rfl, fun _g => ⟨true, rfl, rfl, s'⟩⟩
end
end Go.Proofs.YtccffjlahpfdaaaDoor
