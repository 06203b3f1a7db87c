/- Own text: part of the shallow reading of the code and of the contracts that are proved over it. -/
import Derived.Test.YtilenpnpnbdndaaGreatDoorRtD
/-
  The document's ReadSetting: fn 17 (printed by egen.py).
-/
namespace Go.Proofs.YtilenpnpnbdndaaGreatDoor
open Go Go.Sh
set_option maxRecDepth 100000
attribute [local instance] Esc.none
noncomputable def E96i : TypeInfo := (Tryz.prog.info? 3).getD default
theorem E96 : ElemT Tryz.prog 96 3 1 8 (.int .i64 0) E96i := ⟨by kernel_rfl, by kernel_rfl, by kernel_rfl, by kernel_rfl, by kernel_rfl, rfl, by decide⟩
def wAt (ws : List ByteArray) (i : Nat) : ByteArray := ws.getD i ⟨#[]⟩
def kbyte (l : List UInt8) (j : Nat) : Nat := (l.getD j 0).toNat
def kbI (ws : List ByteArray) (j : Nat) : Int := (kbyte (unhex (bl (wAt ws 4))) j : Int)
def vAt (ws : List ByteArray) (i : Nat) : Int := ((valS (wAt ws (6 + 2 * i)) % 4398046511104 : Nat) : Int)
def vsOf (ws : List ByteArray) : List Int := (List.range 24).map (vAt ws)
/-- what the document reads, loosely -/
def Rk (ws : List ByteArray) : R49 := R49.mk (kbI ws 0) (kbI ws 1) (kbI ws 2) (kbI ws 3) (kbI ws 4) (kbI ws 5) (kbI ws 6) (kbI ws 7) (kbI ws 8) (kbI ws 9) (kbI ws 10) (kbI ws 11) (kbI ws 12) (kbI ws 13) (kbI ws 14) (kbI ws 15) ((valS (wAt ws 2) : Int)) 0 0 0 0 0 0 0 0 0 0 0 0 0 0 0 0 0 0 0 0 0 false false false
def Rl (ws : List ByteArray) : R49 := R49.mk (kbI ws 0) (kbI ws 1) (kbI ws 2) (kbI ws 3) (kbI ws 4) (kbI ws 5) (kbI ws 6) (kbI ws 7) (kbI ws 8) (kbI ws 9) (kbI ws 10) (kbI ws 11) (kbI ws 12) (kbI ws 13) (kbI ws 14) (kbI ws 15) ((valS (wAt ws 2) : Int)) (vAt ws 0) (IntKind.wrap .u32 (vAt ws 1)) (IntKind.wrap .u16 (vAt ws 2)) (IntKind.wrap .u16 (vAt ws 3)) (vAt ws 4) (vAt ws 5) (IntKind.wrap .u16 (vAt ws 6)) (IntKind.wrap .u16 (vAt ws 7)) (vAt ws 8) (vAt ws 9) (vAt ws 10) (vAt ws 11) (vAt ws 12) (vAt ws 13) (vAt ws 14) (vAt ws 15) (vAt ws 16) (vAt ws 17) (vAt ws 18) (vAt ws 19) (vAt ws 20) ((vAt ws 21 == 1)) ((vAt ws 22 == 1)) ((vAt ws 23 == 1))
section
variable {W w : World} {M : List HP}
theorem pt_of_sl {e : TypeId} {n : Nat} {a : Option Addr} {xs : List Value} {L : List HP} (hn : 0 < n) (h : Hs W (slP e 1 a n n xs :: L) w) : ∃ g, a = some ⟨g, 0, none⟩ ∧ Hs W (pt g (.cells xs.toArray e (0, 0)) :: L) w := by
  obtain ⟨x, ⟨hl, hx⟩, g, lo⟩ := h.look (i := 0) rfl
  rcases hx with ⟨rfl, rfl, _⟩ | ⟨b, cur, rfl, _⟩
  · omega
  · refine ⟨b, rfl, h.weak 0 rfl fun y hy => ?_⟩
    obtain ⟨hl, hy⟩ := hy
    rcases hy with ⟨e, _⟩ | ⟨b', cur, e, h1, h2, h3, h4, h5⟩
    · cases e
    · cases e
      have : cur = xs.toArray := by
        apply Array.toList_inj.1
        have h4 : cur.toList.length = n * 1 := h4
        rw [List.take_of_length_le (by omega)] at h5
        rw [h5]
      rw [this] at h1
      exact h1
theorem sz49 (R : R49) (o : Nat) (h : o < 41) : o < R.c.size := h
def Rkc (kl : List UInt8) (n16 : Int) : R49 := R49.mk (kbyte kl 0 : Int) (kbyte kl 1 : Int) (kbyte kl 2 : Int) (kbyte kl 3 : Int) (kbyte kl 4 : Int) (kbyte kl 5 : Int) (kbyte kl 6 : Int) (kbyte kl 7 : Int) (kbyte kl 8 : Int) (kbyte kl 9 : Int) (kbyte kl 10 : Int) (kbyte kl 11 : Int) (kbyte kl 12 : Int) (kbyte kl 13 : Int) (kbyte kl 14 : Int) (kbyte kl 15 : Int) n16 0 0 0 0 0 0 0 0 0 0 0 0 0 0 0 0 0 0 0 0 0 false false false
theorem Rk_eq (ws : List ByteArray) : Rk ws = Rkc (unhex (bl (wAt ws 4))) (valS (wAt ws 2) : Int) := rfl
theorem Rkc_at (kl : List UInt8) (n16 : Int) (o : Nat) (h : o < 16) : (Rkc kl n16).c[o]? = some (.int .u8 (kbyte kl o : Int)) := by
  match o, h with
  | 0, _ => rfl
  | 1, _ => rfl
  | 2, _ => rfl
  | 3, _ => rfl
  | 4, _ => rfl
  | 5, _ => rfl
  | 6, _ => rfl
  | 7, _ => rfl
  | 8, _ => rfl
  | 9, _ => rfl
  | 10, _ => rfl
  | 11, _ => rfl
  | 12, _ => rfl
  | 13, _ => rfl
  | 14, _ => rfl
  | 15, _ => rfl
  | o + 16, h => exact absurd h (by omega)
theorem R49_tail {R R' : R49} (h : R.c.toList.drop 16 = R'.c.toList.drop 16) (o : Nat) (ho : 16 ≤ o) : R.c[o]? = R'.c[o]? := by
  have e : ∀ R : R49, R.c[o]? = (R.c.toList.drop 16)[o - 16]? := fun R => by
    rw [List.getElem?_drop, Array.getElem?_toList]
    congr 1
    omega
  rw [e, e, h]
def R49.z16 (n : Int) : R49 := { R49.zz with f16 := n }
structure KS (kl : List UInt8) (n16 : Int) (cs : Array Value) (j : Nat) : Prop where
  size : cs.size = 41
  lo : ∀ o, o < j → cs[o]? = some (.int .u8 (kbyte kl o : Int))
  hi : ∀ o, j ≤ o → cs[o]? = (R49.z16 n16).c[o]?
theorem zz_at (n16 : Int) (o : Nat) (h : o < 16) : (R49.z16 n16).c[o]? = some (.int .u8 0) := by
  match o, h with
  | 0, _ => rfl
  | 1, _ => rfl
  | 2, _ => rfl
  | 3, _ => rfl
  | 4, _ => rfl
  | 5, _ => rfl
  | 6, _ => rfl
  | 7, _ => rfl
  | 8, _ => rfl
  | 9, _ => rfl
  | 10, _ => rfl
  | 11, _ => rfl
  | 12, _ => rfl
  | 13, _ => rfl
  | 14, _ => rfl
  | 15, _ => rfl
  | o + 16, h => exact absurd h (by omega)
theorem KS.fin {kl : List UInt8} {n16 : Int} {cs : Array Value} {j : Nat} (h : KS kl n16 cs j) (hj : j ≤ 16) (he : 16 ≤ j ∨ kl.length ≤ j) : cs = (Rkc kl n16).c := by
  apply Array.ext_getElem?
  intro o
  by_cases ho : o < 16
  · rw [Rkc_at kl n16 o ho]
    by_cases hoj : o < j
    · exact h.lo o hoj
    · rw [h.hi o (by omega), zz_at n16 o ho]
      have : kbyte kl o = 0 := by
        unfold kbyte
        rw [List.getD_eq_getElem?_getD, List.getElem?_eq_none (by omega)]
        rfl
      rw [this]
      rfl
  · rw [h.hi o (by omega)]
    exact R49_tail (R := R49.z16 n16) (R' := Rkc kl n16) rfl o (by omega)
theorem F17_3_loop {kl : List UInt8} {ka wa : Option Addr} {kc wl wc cb rb : Nat} {n16 : Int} {s : ByteArray} {K0 : Value → Value → Value → Value → World → Prop} :
    ∀ (m j k : Nat) (cs : Array Value) (w : World), 16 - j = m → j ≤ 16 → m < k → KS kl n16 cs j → Hs W (slP 5 1 ka kl.length kc (u8v kl) :: pt cb (.cells cs 50 (0, 0)) :: M) w →
      (∀ w', Hs W (slP 5 1 ka kl.length kc (u8v kl) :: pt cb (.cells (Rkc kl n16).c 50 (0, 0)) :: M) w' → K0 (.string s) (.pointer (some ⟨rb, 0, none⟩)) (.slice wa wl wc) (.pointer (some ⟨cb, 0, none⟩)) w') →
      F17_3 K0 k (.string s) (.pointer (some ⟨rb, 0, none⟩)) (.slice wa wl wc) (.pointer (some ⟨cb, 0, none⟩)) (.slice ka kl.length kc) (.int .i64 (j : Int)) w := by
  intro m
  induction m with
  | zero =>
    intro j k cs w hm hj hk hs h hK
    obtain ⟨k, rfl⟩ : ∃ i, k = i + 1 := ⟨k - 1, by omega⟩
    have e := hs.fin hj (.inl (by omega))
    subst e
    show F17_3B _ _ _ _ _ _ _ _ _
    unfold F17_3B
    simp only [rdS_mk, rdA_mk, rdC_mk, rdI_mk]
    rw [br_dec]
    refine ⟨fun _ => ?_, fun _ => hK w h⟩
    rw [decide_eq_false (by omega), br_false]
    exact hK w h
  | succ m ih =>
    intro j k cs w hm hj hk hs h hK
    obtain ⟨k, rfl⟩ : ∃ i, k = i + 1 := ⟨k - 1, by omega⟩
    show F17_3B _ _ _ _ _ _ _ _ _
    unfold F17_3B
    simp only [rdS_mk, rdA_mk, rdC_mk, rdI_mk]
    rw [br_dec]
    refine ⟨fun hlt => ?_, fun hge => ?_⟩
    · have hlt : j < kl.length := by omega
      rw [decide_eq_true (by omega), br_true]
      unfold F17_2
      simp only [rdS_mk, rdA_mk, rdC_mk, rdI_mk]
      have hr := h.rd 0 rfl
      obtain ⟨ad, rfl⟩ := hr.some (by rw [u8v_len]; omega)
      refine ixS_to (p := j) rfl hlt ?_
      rw [Nat.mul_one]
      refine ldI_c (n := (kbyte kl j : Int)) (hr.at (by unfold kbyte; rw [List.getD_eq_getElem?_getD]; simp [u8v, hlt])) ?_
      refine ⟨⟨by omega, by omega⟩, ?_⟩
      have e1 : ((Addr.mk cb 0 none).add 0 |>.add 0).add ((j : Int).toNat * 1) = Addr.mk cb j none := by simp
      rw [e1]
      refine h.stc 1 rfl (by rw [hs.size]; omega) fun w2 h2 => ?_
      have e3 : IntKind.wrap .i64 ((j : Int) + 1) = ((j + 1 : Nat) : Int) := by rw [wrap_i64 (by omega) (by omega)]; omega
      intro _
      rw [e3]
      refine ih (j + 1) k _ w2 (by omega) (by omega) (by omega) ⟨by simp [hs.size], fun o ho => ?_, fun o ho => ?_⟩ h2 hK
      · by_cases e : o = j
        · subst e
          rw [Array.getElem?_setIfInBounds_self, if_pos (by rw [hs.size]; omega)]
        · rw [Array.getElem?_setIfInBounds_ne (fun x => e x.symm)]
          exact hs.lo o (by omega)
      · rw [Array.getElem?_setIfInBounds_ne (by omega)]
        exact hs.hi o (by omega)
    · have e := hs.fin hj (.inr (by omega))
      subst e
      exact hK w h
theorem vs_len (ws : List ByteArray) : (vsOf ws).length = 24 := by simp [vsOf]
theorem F17_1_loop {ws : List ByteArray} {va : Addr} {wa : Option Addr} {wc cb rb : Nat} {s : ByteArray} {K2 : Value → Value → Value → Value → World → Prop} (hw : ws.length = 53) (hsm : ∀ x ∈ ws, x.size ≤ 140737488355328) (hrw : ∀ (xs : List Value) w', Hs W (slP 3 1 (some va) 24 24 xs :: M) w' → Rd w' wa (wsV ws)) :
    ∀ (m i k : Nat) (w : World), 24 - i = m → i ≤ 24 → m < k → Hs W (slP 3 1 (some va) 24 24 (iV ((vsOf ws).take i) ++ List.replicate (24 - i) (.int .i64 0)) :: M) w →
      (∀ w', Hs W (slP 3 1 (some va) 24 24 (iV (vsOf ws)) :: M) w' → K2 (.string s) (.pointer (some ⟨rb, 0, none⟩)) (.pointer (some ⟨cb, 0, none⟩)) (.slice (some va) 24 24) w') →
      F17_1 K2 k (.string s) (.pointer (some ⟨rb, 0, none⟩)) (.slice wa 53 wc) (.pointer (some ⟨cb, 0, none⟩)) (.slice (some va) 24 24) (.int .i64 (i : Int)) w := by
  intro m
  induction m with
  | zero =>
    intro i k w hm hi hk h hK
    obtain ⟨k, rfl⟩ : ∃ i, k = i + 1 := ⟨k - 1, by omega⟩
    have : i = 24 := by omega
    subst this
    rw [List.take_of_length_le (by rw [vs_len]; omega)] at h
    show F17_1B _ _ _ _ _ _ _ _ _
    unfold F17_1B
    simp only [rdS_mk, rdA_mk, rdC_mk, rdI_mk]
    rw [decide_eq_false (by decide), br_false]
    exact hK w (by simpa using h)
  | succ m ih =>
    intro i k w hm hi hk h hK
    obtain ⟨k, rfl⟩ : ∃ i, k = i + 1 := ⟨k - 1, by omega⟩
    show F17_1B _ _ _ _ _ _ _ _ _
    unfold F17_1B
    simp only [rdS_mk, rdA_mk, rdC_mk, rdI_mk]
    rw [decide_eq_true (by omega), br_true]
    have e0 : IntKind.wrap .i64 (6 + IntKind.wrap .i64 (2 * (i : Int))) = ((6 + 2 * i : Nat) : Int) := by
      have : IntKind.wrap .i64 (2 * (i : Int)) = 2 * (i : Int) := wrap_i64 (by omega) (by omega)
      rw [this, wrap_i64 (by omega) (by omega)]; omega
    rw [e0]
    have hr := hrw _ w h
    obtain ⟨ad, rfl⟩ := hr.some (by simp [wsV]; omega)
    refine ixS_to (p := 6 + 2 * i) rfl (by omega) ?_
    rw [Nat.mul_one]
    have hi6 : 6 + 2 * i < ws.length := by omega
    have hget : ws[6 + 2 * i]? = some (wAt ws (6 + 2 * i)) := by
      unfold wAt
      rw [List.getD_eq_getElem?_getD, List.getElem?_eq_getElem hi6]
      rfl
    refine ldS_c (n := wAt ws (6 + 2 * i)) (hr.at (by simp [wsV, hget])) ?_
    refine clr (c37 (hsm _ (List.mem_of_getElem? hget))) ⟨_, rfl, ?_⟩
    refine ixS_to (p := i) rfl (by omega) ?_
    rw [Nat.mul_one]
    have e1 : IntKind.wrap .i64 (Int.tmod (valS (wAt ws (6 + 2 * i)) : Int) 4398046511104) = vAt ws i := by
      unfold vAt
      rw [Int.tmod_eq_emod_of_nonneg (by omega), wrap_i64 (by omega) (by omega)]
      omega
    rw [e1]
    have hlen : (iV ((vsOf ws).take i)).length = i := by simp [iV, vs_len]; omega
    refine h.put 0 rfl (j := i) (by rw [List.length_append, hlen, List.length_replicate]; omega) fun w2 h2 => ?_
    have e2 : (iV ((vsOf ws).take i) ++ List.replicate (24 - i) (Value.int .i64 0)).set i (.int .i64 (vAt ws i)) = iV ((vsOf ws).take (i + 1)) ++ List.replicate (24 - (i + 1)) (Value.int .i64 0) := by
      rw [List.set_append_right _ _ (by omega), hlen]
      have e3 : 24 - i = (24 - (i + 1)) + 1 := by omega
      have e4 : (vsOf ws)[i]? = some (vAt ws i) := by unfold vsOf; rw [List.getElem?_map, List.getElem?_range (by omega)]; rfl
      rw [e3, List.replicate_succ, Nat.sub_self, List.set_cons_zero, List.take_add_one, e4]
      simp [iV]
    have h2 : Hs W (slP 3 1 (some va) 24 24 ((iV ((vsOf ws).take i) ++ List.replicate (24 - i) (Value.int .i64 0)).set i (.int .i64 (vAt ws i))) :: M) w2 := h2
    rw [e2] at h2
    have e3 : IntKind.wrap .i64 ((i : Int) + 1) = ((i + 1 : Nat) : Int) := by rw [wrap_i64 (by omega) (by omega)]; omega
    rw [e3]
    exact ih (i + 1) k w2 (by omega) (by omega) (by omega) h2 hK
end
end Go.Proofs.YtilenpnpnbdndaaGreatDoor
