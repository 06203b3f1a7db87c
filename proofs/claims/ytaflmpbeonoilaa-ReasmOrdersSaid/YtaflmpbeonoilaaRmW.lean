/-
  Ordered messages are told by their numbers: the walk (ReasmOrders).
-/
import Derived.Test.YtaflmpbeonoilaaRmV
import Derived.Test.YtaflmpbeonoilaaRmS
namespace Go.Proofs.Ytaflmpbeonoilaa
open Go Go.Sh Go.RowKit
theorem RunM.len {cur c : List Int} {M : List Ms} (h : RunM cur M c) : c.length = cur.length := by
  induction h with
  | nil => rfl
  | cons _ _ ih =>
    rw [ih]
    unfold nxM
    split
    · rfl
    · rw [List.length_set]
theorem turn_lim : ∀ (n : Nat) (s : St) (st : Int), (turnS n s st).lim = s.lim
  | 0, _, _ => rfl
  | n + 1, s, st => by
    unfold turnS
    cases s.wh.findIdx? (isTurn s st) with
    | none => rfl
    | some i => exact turn_lim n _ st
theorem putT_lim (s : St) (c : Ch) : (putT s c).lim = s.lim := by
  unfold putT putS
  split
  · split
    · split
      · rfl
      · exact turn_lim _ _ _
    · rfl
  · rfl
theorem putT_okO {s : St} {c : Ch} {cur : List Int} (h : OkO s cur) (hc : CkOk c) (hl : s.lim ≤ 1073741824) : OkO (putT s c) cur := by
  unfold putT
  split
  · rename_i he; exact put_okO h hc hl he
  · exact h
section
variable {W w : World} {L M Z : List HP} {tb : Nat} {s : St} {cur : List Int}
theorem c4_1 {xa na : Option Addr} {xn xc nc b9 : Nat} {v3 : Option Addr} {n4 : Int} {m : Ms} {a : Option Addr} {c : Nat} {Kn : Value → Value → Value → Value → World → Prop} (hl : cur.length = 4) (hm : okM cur m)
    (h : Hs W (slP 31 1 na 4 nc (inV .u16 cur) :: pt b9 (.cells (m.rc a c).c 39 (0, 0)) :: L) w)
    (hK : ∀ w', Hs W (slP 31 1 na 4 nc (inV .u16 (nxM cur m)) :: pt b9 (.cells (m.rc a c).c 39 (0, 0)) :: L) w' → Kn (.slice xa xn xc) (.pointer v3) (.slice na 4 nc) (.int .i64 n4) w') :
    F4_1 Kn (.slice xa xn xc) (.pointer v3) (.slice na 4 nc) (.int .i64 n4) (.pointer (some ⟨b9, 0, none⟩)) w := by
  unfold F4_1
  simp only [rdC_mk, rdP_mk, rdI_mk, rdA_mk, add_mk]
  refine h.ldB 1 rfl rfl ?_
  show br (!m.un) _ _
  cases hu : m.un with
  | true =>
    have e : nxM cur m = cur := by unfold nxM; rw [hu]; rfl
    rw [e] at hK
    exact hK w h
  | false =>
    rw [Bool.not_false, br_true]
    have e : nxM cur m = cur.set m.st.toNat (IntKind.wrap .u16 (cur.getD m.st.toNat 0 + 1)) := by unfold nxM; rw [hu]; rfl
    rw [e] at hK
    obtain ⟨⟨h0, h1⟩, _⟩ := hm
    obtain ⟨p, hp⟩ : ∃ p : Nat, m.st = (p : Int) := ⟨m.st.toNat, by omega⟩
    have hpn : m.st.toNat = p := by omega
    have hp4 : p < 4 := by omega
    have hx : cur[p]? = some (cur.getD m.st.toNat 0) := by
      rw [hpn, List.getD_eq_getElem?_getD, List.getElem?_eq_getElem (by omega)]; rfl
    refine h.ldI 1 rfl rfl ?_
    obtain ⟨nd, hna⟩ := (h.rd 0 rfl).some (by rw [inV_length]; omega)
    subst hna
    refine ixS_to hp hp4 ?_
    rw [Nat.mul_one]
    refine ldI_c ((h.rd 0 rfl).at (inV_at hx)) ?_
    refine ixS_to hp hp4 ?_
    rw [Nat.mul_one]
    refine h.put 0 rfl (by rw [inV_length]; omega) fun w11 h11 => ?_
    rw [inV_set, ← hpn] at h11
    exact hK w11 h11
theorem c4_2 {xa na : Option Addr} {xn xc nc : Nat} {n4 : Int} {K2 : Value → Value → Value → Value → World → Prop} {Kr : Value → World → Prop} :
    ∀ (r : List Ms) (s : St) (cur : List Int) (w1 : World) (k : Nat), s.M = r → OkO s cur → cur.length = 4 → Hs W (tabP tb (tot s) s :: [slP 31 1 na 4 nc (inV .u16 cur)]) w1 → r.length < k →
      (∀ w' s' cur', OkO s' cur' → cur'.length = 4 → s'.M = [] → s'.lim = s.lim → Hs W (tabP tb (tot s') s' :: [slP 31 1 na 4 nc (inV .u16 cur')]) w' → K2 (.slice xa xn xc) (.pointer (some ⟨tb, 0, none⟩)) (.slice na 4 nc) (.int .i64 n4) w') →
      F4_2 K2 Kr k (.slice xa xn xc) (.pointer (some ⟨tb, 0, none⟩)) (.slice na 4 nc) (.int .i64 n4) w1 := by
  intro r
  induction r with
  | nil =>
    intro s cur w1 k hM hO hl h hk hK
    obtain ⟨k, rfl⟩ : ∃ j, k = j + 1 := ⟨k - 1, by omega⟩
    show F4_2B _ _ _ _ _ _ _ _
    unfold F4_2B
    simp only [rdC_mk, rdP_mk, rdI_mk]
    refine cl (c13n hM h) ?_
    rintro _ w5 ⟨rfl, h5⟩
    refine exR38_of R38.z ⟨false, rfl, ?_⟩
    refine h5.alc fun b9 w10 h10 => ?_
    refine h10.stcL 0 rfl rfl fun w11 h11 => ?_
    rw [Bool.not_false, br_true]
    exact hK w11 s cur hO hl hM rfl h11.drop
  | cons m r ih =>
    intro s cur w1 k hM hO hl h hk hK
    obtain ⟨k, rfl⟩ : ∃ j, k = j + 1 := ⟨k - 1, by omega⟩
    show F4_2B _ _ _ _ _ _ _ _
    unfold F4_2B
    simp only [rdC_mk, rdP_mk, rdI_mk]
    refine cl (c13s hM hO.tot h) ?_
    rintro _ w5 ⟨a, c, rfl, h5⟩
    refine exR38_of (m.rc a c) ⟨true, rfl, ?_⟩
    refine h5.alc fun b9 w10 h10 => ?_
    refine h10.stcL 0 rfl rfl fun w11 h11 => ?_
    rw [Bool.not_true, br_false]
    refine h11.drw fun w12 h12 => ?_
    have h12 : Hs W (pt b9 (.cells (m.rc a c).c 39 (0, 0)) :: tabP tb (tot { s with M := r }) { s with M := r } :: slP 5 1 a m.d.length c (inV .u8 m.d) :: slP 31 1 na 4 nc (inV .u16 cur) :: []) w12 := h12
    have hrun := hO.run
    rw [hM] at hrun
    cases hrun with
    | cons hm hrun =>
    have hd0 : m.d.length ≠ 0 := fun e => hO.mne m (by rw [hM]; simp) (List.length_eq_zero_iff.1 e)
    have hO' : OkO { s with M := r } (nxM cur m) :=
      ⟨⟨⟨hO.key, hO.rng, hO.fix, hO.fkey, hO.cnt, hO.rows, hO.dis, fun m' hm' => hO.mne m' (by rw [hM]; simp [hm']), by have := tot_take hM; have := hO.tot; omega⟩, hO.frng, hO.whole⟩, hO.ord, hrun⟩
    have hl' : (nxM cur m).length = 4 := by
      unfold nxM
      split
      · exact hl
      · rw [List.length_set]; exact hl
    have hm' := hm
    obtain ⟨⟨st0, st1⟩, hssn⟩ := hm'
    obtain ⟨p, hp⟩ : ∃ p : Nat, m.st = (p : Int) := ⟨m.st.toNat, by omega⟩
    have hp4 : p < 4 := by omega
    have hpn : m.st.toNat = p := by omega
    have fin : F4_1 (fun y0 y3 y5 y6 w23 => ∀ _g : Tm, rdC y0 fun l25a l25n l25c => rdP y3 fun p26 => rdC y5 fun l27a l27n l27c => rdI .i64 y6 fun n28 => F4_2 K2 Kr k (.slice l25a l25n l25c) (.pointer p26) (.slice l27a l27n l27c) (.int .i64 n28) w23) (.slice xa xn xc) (.pointer (some ⟨tb, 0, none⟩)) (.slice na 4 nc) (.int .i64 n4) (.pointer (some ⟨b9, 0, none⟩)) w12 := by
      have h13 := h12.focus (i := 3) rfl
      refine c4_1 hl hm (m := m) (a := a) (c := c) h13 fun w' h' _g => ?_
      simp only [rdC_mk, rdP_mk, rdI_mk]
      have h14 : Hs W (tabP tb (tot { s with M := r }) { s with M := r } :: [slP 31 1 na 4 nc (inV .u16 (nxM cur m))]) w' := (h'.perm (List.Perm.swap _ _ _)).drop.pick [1, 0]
      exact ih { s with M := r } (nxM cur m) w' k rfl hO' hl' h14 (by simp at hk; omega) hK
    have len0 : ((m.d.length : Int) == 0) = false := by rw [beq_eq_false_iff_ne]; omega
    simp only [add_mk]
    refine h12.ldI 0 rfl rfl ?_
    show br (decide (m.st > 3)) _ _
    rw [br_dec]
    refine ⟨fun hgt => by exfalso; omega, fun _ => ?_⟩
    refine h12.ldB 0 rfl rfl ?_
    show br m.un _ _
    cases hu : m.un with
    | true =>
      rw [hu, if_pos rfl] at hssn
      rw [br_true]
      refine h12.ldI 0 rfl rfl ?_
      have e0 : ((m.rc a c).f1 != 0) = false := by show (m.ssn != 0) = false; rw [hssn]; rfl
      rw [e0, br_false]
      refine h12.ldB 0 rfl rfl ?_
      show br (!m.un) _ _
      rw [hu, Bool.not_true, br_false]
      refine h12.ldC 0 rfl rfl ?_
      show br ((m.d.length : Int) == 0) _ _
      rw [len0, br_false]
      exact fin
    | false =>
      rw [hu, if_neg (by decide)] at hssn
      rw [br_false]
      refine h12.ldB 0 rfl rfl ?_
      show br (!m.un) _ _
      rw [hu, Bool.not_false, br_true]
      refine h12.ldI 0 rfl rfl (h12.ldI 0 rfl rfl ?_)
      obtain ⟨nd, hna⟩ := (h12.rd 3 rfl).some (by rw [inV_length]; omega)
      have hrd : Rd w12 (some nd) (inV .u16 cur) := by rw [← hna]; exact h12.rd 3 rfl
      have hx : cur[p]? = some (cur.getD m.st.toNat 0) := by
        rw [hpn, List.getD_eq_getElem?_getD, List.getElem?_eq_getElem (by omega)]; rfl
      show ixS 1 na 4 m.st _
      rw [hna]
      refine ixS_to hp hp4 ?_
      rw [Nat.mul_one]
      refine ldI_c (hrd.at (inV_at hx)) ?_
      have e0 : ((m.rc a c).f1 != cur.getD m.st.toNat 0) = false := by show (m.ssn != _) = false; rw [hssn]; simp
      rw [e0, br_false]
      refine h12.ldC 0 rfl rfl ?_
      show br ((m.d.length : Int) == 0) _ _
      rw [len0, br_false, ← hna]
      exact fin
structure CsOk (w : World) (e : R35 × List Int) : Prop where
  rd : Rd w e.1.f13a (inV .u8 e.2)
  len : e.1.f13n = e.2.length
  ck : CkOk ⟨e.1, e.2⟩
theorem c4_3 {xa na : Option Addr} {xc nc : Nat} {cs : List (R35 × List Int)} {K0 Kr : Value → World → Prop} (hX : Rd W xa (cs.flatMap fun e => e.1.l)) (hcs : ∀ e ∈ cs, CsOk W e) (hl : cs.length ≤ 9223372036854775807) :
    ∀ (i j : Nat) (s : St) (cur : List Int) (w1 : World) (k : Nat), j + i = cs.length → OkO s cur → cur.length = 4 → s.M = [] → s.lim = 1073741824 → Hs W (tabP tb (tot s) s :: [slP 31 1 na 4 nc (inV .u16 cur)]) w1 → i < k →
      (∀ w' s', s'.M = [] → Hs W (tabP tb (tot s') s' :: []) w' → K0 (.pointer (some ⟨tb, 0, none⟩)) w') →
      F4_3 K0 Kr k (.slice xa cs.length xc) (.pointer (some ⟨tb, 0, none⟩)) (.slice na 4 nc) (.int .i64 (j : Int)) w1 := by
  intro i
  induction i with
  | zero =>
    intro j s cur w1 k hj hO hc hM hlim h hk hK
    obtain ⟨k, rfl⟩ : ∃ j, k = j + 1 := ⟨k - 1, by omega⟩
    show F4_3B _ _ _ _ _ _ _ _
    unfold F4_3B
    simp only [rdC_mk, rdP_mk, rdI_mk, br_dec]
    exact ⟨fun hlt => by exfalso; omega, fun _ => hK w1 s hM (h.pick [0])⟩
  | succ i ih =>
    intro j s cur w1 k hj hO hc hM hlim h hk hK
    obtain ⟨k, rfl⟩ : ∃ j, k = j + 1 := ⟨k - 1, by omega⟩
    show F4_3B _ _ _ _ _ _ _ _
    unfold F4_3B
    simp only [rdC_mk, rdP_mk, rdI_mk, br_dec]
    refine ⟨fun _ => ?_, fun hlt => by exfalso; omega⟩
    obtain ⟨e, he⟩ : ∃ e, cs[j]? = some e := ⟨cs[j]'(by omega), by simp⟩
    have hk' := hcs e (List.mem_of_getElem? he)
    have hx1 := h.rd_old hX
    have hlen : (cs.flatMap fun e => e.1.l).length = cs.length * 15 := flat_length (f := fun e : R35 × List Int => e.1.l) (m := 15) (fun _ => rfl) _
    obtain ⟨xd, hxa⟩ := hx1.some (by rw [hlen]; omega)
    rw [hxa] at hx1 ⊢
    refine ixS_to rfl (by omega) ?_
    refine ldR35_of (hx1.atI (f := fun e : R35 × List Int => e.1.l) (m := 15) (fun _ => rfl) he) ?_
    have hnx : s.nx.length = 4 := by rw [hO.run.len, hc]
    refine cl (c11 (x := e.1) (b := e.2) hO.toOkB hk'.ck hk'.len (by omega) (by omega) (fun w' h' => h'.rd_old hk'.rd) h) ?_
    rintro _ w7 ⟨rfl, h7⟩
    refine ⟨_, rfl, ?_⟩
    have hO2 := putT_okO (c := ⟨e.1, e.2⟩) hO hk'.ck (by omega)
    refine ⟨(putT s ⟨e.1, e.2⟩).M.length + 1, c4_2 (putT s ⟨e.1, e.2⟩).M (putT s ⟨e.1, e.2⟩) cur w7 _ rfl hO2 hc h7 (by omega) fun w' s' cur' hO' hc' hM' hlim' h' _g => ?_⟩
    simp only [rdC_mk, rdP_mk, rdI_mk]
    have e1 : IntKind.wrap .i64 ((j : Int) + 1) = ((j + 1 : Nat) : Int) := by rw [wrap_i64 (by omega) (by omega)]; omega
    rw [e1, ← hxa]
    exact ih (j + 1) s' cur' w' k (by omega) hO' hc' hM' (by rw [hlim', putT_lim, hlim]) h' (by omega) hK
theorem c4 {xa : Option Addr} {xc : Nat} {cs : List (R35 × List Int)} (hX : Rd w xa (cs.flatMap fun e => e.1.l)) (hcs : ∀ e ∈ cs, CsOk w e) (hl : cs.length ≤ 9223372036854775807) : Calls Try.prog 4 #[.slice xa cs.length xc] w (rt fun v w' => v = .bool true ∧ Same w w') := by
  refine F4_ok ?_
  unfold F4
  simp only [rdC_mk]
  refine cl (c9 (n := 4) (n2 := 1073741824) (by omega) (by omega) (Hs.start w)) ?_
  rintro _ w2 ⟨tb, rfl, h2⟩
  refine ⟨_, _, rfl, ?_⟩
  have e0 : ((0 : Int) != 0) = false := rfl
  rw [e0, br_false]
  simp only [Option.isNone_some, br_false]
  refine cl (c10 w2) ?_
  rintro _ w6 ⟨rfl, s6⟩
  refine ⟨_, rfl, ?_⟩
  have h6 := h2.same s6
  simp only [Bool.not_true, br_false]
  unfold F4_4
  simp only [rdC_mk, rdP_mk]
  refine h6.make (n := 4) E46 (by decide) (by decide) (by decide) fun na w4 h7 _ => ?_
  rw [zeros16] at h7
  have h8 := h7.perm (List.Perm.swap _ _ _)
  have hO : OkO (newS 4 1073741824) (List.replicate 4 0) := ⟨newS_ok _ _, by simp [newS], .nil _⟩
  refine ⟨cs.length + 1, c4_3 hX hcs hl cs.length 0 (newS 4 1073741824) (List.replicate 4 0) w4 _ (by omega) hO (by simp) rfl rfl h8 (by omega) fun w' s' hM h' _g => ?_⟩
  simp only [rdP_mk]
  obtain ⟨d, hi, h9⟩ := tab_open h'
  have hms : d.ms.length = 0 := by
    have := hi.M
    rw [hM] at this
    rw [List.map_eq_nil_iff.1 this]; rfl
  refine clr (c16 h9) ⟨_, rfl, ?_⟩
  intro _
  simp only [rdB_mk, hms]
  exact ⟨by first | rfl | trivial, h9.old⟩
end
end Go.Proofs.Ytaflmpbeonoilaa
