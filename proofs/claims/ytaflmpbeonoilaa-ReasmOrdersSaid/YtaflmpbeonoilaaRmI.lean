/-
  A message is taken; the rows whose turn it is.
-/
import Derived.Test.YtaflmpbeonoilaaRmH
namespace Go.Proofs.Ytaflmpbeonoilaa
open Go Go.Sh
section
variable {W w : World} {L M : List HP} {tb mc mf : Nat} {hd : Int} {d : TD} {s : St} {es : List Ec} {F : List Int}
theorem c13_none (hi : Is d s) (hM : s.M = []) (h : Hs W (tabL tb hd d s ++ L) w) : Calls Try.prog 13 #[.pointer (some ⟨tb, 0, none⟩)] w (rt fun v w' => v = .tuple #[R38.z.v, .bool false] ∧ Hs W (tabL tb hd d s ++ L) w') := by
  have hms : d.ms = [] := by
    have := hi.M
    rw [hM] at this
    exact List.map_eq_nil_iff.1 this
  refine F13_ok ?_
  unfold F13
  simp only [rdP_mk]
  refine h.alc fun b2 w3 h3 => ?_
  refine clr (c24t h3.drop) ⟨_, rfl, ?_⟩
  simp only [Bool.not_true, br_false, nn_some, add_mk]
  refine h3.ldC 1 rfl rfl ?_
  have e0 : ((d.ms.length : Int) == 0) = true := by rw [hms]; rfl
  rw [e0, br_true]
  refine h3.stcL 0 rfl rfl fun w11 h11 => ?_
  refine ldR38_of (s := R38.z) (h11.atL 0 rfl) ⟨by first | rfl | trivial, h11.drop⟩
theorem c13 {m : Ms} {r : List Ms} (hi : Is d s) (hM : s.M = m :: r) (hb : 0 ≤ hd ∧ hd ≤ 4294967296 ∧ m.d.length ≤ 4294967296) (h : Hs W (tabL tb hd d s ++ L) w) : Calls Try.prog 13 #[.pointer (some ⟨tb, 0, none⟩)] w (rt fun v w' => ∃ a c, v = .tuple #[(m.rc a c).v, .bool true] ∧ ∃ d', Is d' { s with M := r } ∧ Hs W (slP 5 1 a m.d.length c (inV .u8 m.d) :: (tabL tb (hd - m.d.length) d' { s with M := r } ++ L)) w') := by
  obtain ⟨e0, ms', hms, he0, hr0⟩ : ∃ e0 ms', d.ms = e0 :: ms' ∧ e0.m = m ∧ ms'.map Em.m = r := by
    have := hi.M
    rw [hM] at this
    cases hd : d.ms with
    | nil => rw [hd] at this; cases this
    | cons e0 ms' =>
      rw [hd] at this
      simp only [List.map_cons, List.cons.injEq] at this
      exact ⟨e0, ms', rfl, this.1, this.2⟩
  subst he0
  refine F13_ok ?_
  unfold F13
  simp only [rdP_mk]
  refine h.alc fun b2 w3 h3 => ?_
  refine clr (c24t h3.drop) ⟨_, rfl, ?_⟩
  simp only [Bool.not_true, br_false, nn_some, add_mk]
  refine h3.ldC 1 rfl rfl ?_
  have e1 : ((d.ms.length : Int) == 0) = false := by rw [hms, beq_eq_false_iff_ne]; simp; omega
  rw [e1, br_false]
  unfold F13_1
  simp only [rdP_mk, rdA_mk, nn_some, add_mk]
  refine h3.ldC 1 rfl rfl ?_
  have hrd := h3.rdO 6 rfl
  have hl := h3.lenO 6 rfl
  obtain ⟨ad, hra⟩ := hrd.some (by rw [msV_length, hms]; simp)
  have hrd' : Rd w3 (some ad) (msV d.ms) := by rw [← hra]; exact hrd
  have hlt : 0 < d.ms.length := by rw [hms]; simp
  have eix : ∀ {K : Addr → Prop}, K (ad.add (0 * 5)) → ixS 5 d.ra d.ms.length 0 K := by
    intro K hk
    rw [hra]
    exact ixS_to (p := 0) rfl hlt hk
  refine eix ?_
  refine ldR38_of (s := e0.rc) (hrd'.atI (f := fun e : Em => e.rc.l) (m := 5) (i := 0) (fun _ => rfl) (by rw [hms]; rfl)) ?_
  refine h3.alc fun b7 w8 h8 => ?_
  refine h8.stcL 0 rfl rfl fun w9 h9 => ?_
  refine h9.ldC 2 rfl rfl ?_
  refine slS_lo (j := 1) (show 1 ≤ d.ms.length by omega) ?_
  have h9 : Hs W (pt b7 (.cells e0.rc.c 39 (0, 0)) :: pt b2 (.cells R38.z.c 39 (0, 0)) :: (tabL tb hd d s ++ L)) w9 := h9
  have h10 := h9.cutO 7 rfl (j := 1) (by omega)
  refine h10.stc 2 rfl (by simp [tabC, R69.c]) fun w14 h14 => ?_
  refine h14.drw fun w15 h15 => ?_
  refine h15.ldI 2 rfl rfl (h15.ldC 0 rfl rfl ?_)
  refine h15.stc 2 rfl (by simp [tabC, R69.c]) fun w20 h20 => ?_
  refine ldR38_of (s := e0.rc) (h20.atL 0 rfl) ?_
  refine h20.stcL 1 rfl rfl fun w22 h22 _g => ?_
  simp only [rdB_mk]
  refine ldR38_of (s := e0.rc) (h22.atL 1 rfl) ?_
  refine ⟨e0.a, e0.c, by first | rfl | trivial, ?_⟩
  have hsub : IntKind.wrap .i64 (hd - (e0.m.d.length : Int)) = hd - (e0.m.d.length : Int) := wrap_i64 (by omega) (by omega)
  have el : d.ms.length - 1 = ms'.length := by rw [hms]; simp
  have ev : (msV d.ms).drop (1 * 5) = msV ms' := by rw [hms]; rfl
  obtain ⟨ra', hra'⟩ : ∃ ra', ra' = (if d.rc = 1 then d.ra else d.ra.map (·.add (1 * 5))) := ⟨_, rfl⟩
  rw [el, ev, ← hra'] at h22
  have h23 := h22.drop.drop
  refine ⟨{ d with ms := ms', ra := ra', rc := d.rc - 1 }, ⟨hi.L, hi.wh, hr0⟩, ?_⟩
  have h24 := h23.big_out 8 (l := d.ms) (F := datP) (k := 0) (x := e0) rfl (by rw [hms]; rfl)
  have ee : d.ms.eraseIdx 0 = ms' := by rw [hms]; rfl
  rw [ee] at h24
  show Hs W (slP 5 1 e0.a e0.m.d.length e0.c (inV .u8 e0.m.d) :: _) w22
  rw [← hsub]
  exact h24
end
end Go.Proofs.Ytaflmpbeonoilaa
