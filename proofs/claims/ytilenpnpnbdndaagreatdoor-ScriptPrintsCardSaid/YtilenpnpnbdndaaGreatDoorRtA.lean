/- Own text: part of the shallow reading of the code and of the contracts that are proved over it. -/
import Derived.Test.YtilenpnpnbdndaaGreatDoorStA
import Derived.Test.YtilenpnpnbdndaaGreatDoorSrQ
/-
  The document's small functions: number, order, bit, worth, value, hex, bytes.
-/
namespace Go.Proofs.YtilenpnpnbdndaaGreatDoor
open Go Go.Sh
set_option maxRecDepth 100000
attribute [local instance] Esc.none
section
variable {W w : World} {M : List HP}
theorem c30 {n : Int} : Calls Tryz.prog 30 #[.int .i64 n] w (rt (KR (.bool (decide (0 ≤ n ∧ n ≤ 1099511627776))) w)) := by
  refine F30_ok ?_
  unfold F30
  simp only [rdI_mk]
  rw [br_dec]
  refine ⟨fun h => ?_, fun h => ?_⟩
  · have : decide (0 ≤ n ∧ n ≤ 1099511627776) = decide (n ≤ 1099511627776) := by
      have h0 : 0 ≤ n := h
      simp [h0]
    rw [this]
    exact KR.mk _ _
  · have : decide (0 ≤ n ∧ n ≤ 1099511627776) = false := decide_eq_false fun x => h x.1
    rw [this]
    exact KR.mk _ _
theorem c54 {b : Bool} : Calls Tryz.prog 54 #[.bool b] w (rt (KR (.string (if b then ⟨#[117]⟩ else ⟨#[111]⟩)) w)) := by
  refine F54_ok ?_
  unfold F54
  simp only [rdB_mk]
  cases b with
  | true => rw [br_true]; exact KR.mk _ _
  | false => rw [br_false]; exact KR.mk _ _
def bitN (b : Bool) : Int := if b then 1 else 0
theorem c64 {b : Bool} : Calls Tryz.prog 64 #[.bool b] w (rt (KR (.int .i64 (bitN b)) w)) := by
  refine F64_ok ?_
  unfold F64
  simp only [rdB_mk]
  cases b with
  | true => rw [br_true]; exact KR.mk _ _
  | false => rw [br_false]; exact KR.mk _ _
/-! worth of a digit -/
def wrtF (b : UInt8) : Nat → Nat → Nat
  | 0, _ => 0
  | m + 1, i => if hxd i = b then i else wrtF b m (i + 1)
def wrt (b : UInt8) : Nat := wrtF b 16 0
theorem wrt_hxd : ∀ n : Fin 16, wrt (hxd n.val) = n.val := by decide +kernel
theorem wrt_lt' : ∀ b : Fin 256, wrt (UInt8.ofNat b.val) < 16 := by decide +kernel
theorem wrt_lt (b : UInt8) : wrt b < 16 := by
  have := wrt_lt' ⟨b.toNat, b.toNat_lt⟩
  simpa using this
theorem F56_loop {b : UInt8} {K0 : World → Prop} {Kr : Value → World → Prop} (hK : ∀ n : Nat, n = 0 → wrt b = n → K0 w) (hR : ∀ n : Nat, n < 16 → wrt b = n → Kr (.int .i64 (n : Int)) w) :
    ∀ (m i k : Nat), i + m = 16 → m < k → wrtF b m i = wrt b → F56_1 K0 Kr k (.int .u8 (b.toNat : Int)) (.int .i64 (i : Int)) w := by
  intro m
  induction m with
  | zero =>
    intro i k hi hk he
    obtain ⟨k, rfl⟩ : ∃ i, k = i + 1 := ⟨k - 1, by omega⟩
    show F56_1B _ _ _ _ _ _
    unfold F56_1B
    simp only [rdI_mk]
    rw [decide_eq_false (by omega), br_false]
    exact hK 0 rfl he.symm
  | succ m ih =>
    intro i k hi hk he
    obtain ⟨k, rfl⟩ : ∃ i, k = i + 1 := ⟨k - 1, by omega⟩
    show F56_1B _ _ _ _ _ _
    unfold F56_1B
    simp only [rdI_mk]
    rw [decide_eq_true (by omega), br_true]
    refine ixT_dg (by omega) ?_
    by_cases e : hxd i = b
    · have e2 : (((hxd i).toNat : Int) == (b.toNat : Int)) = true := by rw [e]; simp
      rw [e2, br_true]
      refine hR i (by omega) ?_
      rw [← he]
      unfold wrtF
      rw [if_pos e]
    · have e2 : (((hxd i).toNat : Int) == (b.toNat : Int)) = false := beq_eq_false_iff_ne.2 fun x => e (UInt8.toNat.inj (by omega))
      rw [e2, br_false]
      have e3 : IntKind.wrap .i64 ((i : Int) + 1) = ((i + 1 : Nat) : Int) := by rw [wrap_i64 (by omega) (by omega)]; omega
      rw [e3]
      refine ih (i + 1) k (by omega) (by omega) ?_
      rw [← he]
      conv => rhs; unfold wrtF
      rw [if_neg e]
theorem c56 {b : UInt8} : Calls Tryz.prog 56 #[.int .u8 (b.toNat : Int)] w (rt (KR (.int .i64 (wrt b : Int)) w)) := by
  refine F56_ok ?_
  unfold F56
  simp only [rdI_mk]
  refine ⟨17, F56_loop (fun n hn he => ?_) (fun n hn he => ?_) 16 0 17 (by omega) (by omega) rfl⟩
  · intro _
    rw [he, hn]
    exact KR.mk _ _
  · intro _
    simp only [rdI_mk]
    rw [he]
    exact KR.mk _ _
/-! bytes of hex, loosely -/
def unhex : List UInt8 → List UInt8
  | p :: q :: t => UInt8.ofNat (wrt p * 16 + wrt q) :: unhex t
  | _ => []
theorem unhex_hexs : ∀ l, unhex (hexs l) = l
  | [] => rfl
  | b :: l => by
    have hb := b.toNat_lt
    have h1 := wrt_hxd ⟨b.toNat / 16, by omega⟩
    have h2 := wrt_hxd ⟨b.toNat % 16, by omega⟩
    simp only at h1 h2
    rw [hexs_cons]
    unfold unhex
    rw [h1, h2, unhex_hexs l]
    have : b.toNat / 16 * 16 + b.toNat % 16 = b.toNat := by omega
    rw [this]
    simp
theorem unhex_hexW (l : List UInt8) : unhex (hexW l) = l := by
  unfold hexW
  split
  · rename_i e; subst e; rfl
  · exact unhex_hexs l
theorem F38_loop {s : ByteArray} {K0 : Value → World → Prop} (hsz : s.size ≤ 140737488355328) :
    ∀ (m : Nat) (l1 u2 : List UInt8) (i k : Nat) (oa : Option Addr) (oc : Nat) (w : World), (bl s).drop i = u2 → u2.length = m → i ≤ s.size → m < k → l1.length ≤ i → Hs W (slP 5 1 oa l1.length oc (u8v l1) :: M) w →
      (∀ oa' oc' w', Hs W (slP 5 1 oa' (l1 ++ unhex u2).length oc' (u8v (l1 ++ unhex u2)) :: M) w' → K0 (.slice oa' (l1 ++ unhex u2).length oc') w') →
      F38_1 K0 k (.string s) (.slice oa l1.length oc) (.int .i64 (i : Int)) w := by
  intro m
  induction m using Nat.strongRecOn with
  | _ m ih =>
    intro l1 u2 i k oa oc w hu hm hi hk hl1 h hK
    obtain ⟨k, rfl⟩ : ∃ i, k = i + 1 := ⟨k - 1, by omega⟩
    have hml : s.size - i = m := by rw [← hm, ← hu, List.length_drop, bl_len]
    show F38_1B _ _ _ _ _ _
    unfold F38_1B
    simp only [rdS_mk, rdC_mk, rdI_mk]
    have e1 : IntKind.wrap .i64 ((i : Int) + 1) = ((i + 1 : Nat) : Int) := by rw [wrap_i64 (by omega) (by omega)]; omega
    rw [e1]
    match u2, hu, hm, hK with
    | [], hu, hm, hK =>
      rw [decide_eq_false (by simp at hm; omega), br_false]
      have : l1 ++ unhex [] = l1 := by simp [unhex]
      rw [this] at hK
      exact hK oa oc w h
    | [x], hu, hm, hK =>
      rw [decide_eq_false (by simp at hm; omega), br_false]
      have : l1 ++ unhex [x] = l1 := by simp [unhex]
      rw [this] at hK
      exact hK oa oc w h
    | p :: q :: t, hu, hm, hK =>
      rw [decide_eq_true (by simp at hm; omega), br_true]
      refine h.drw fun w2 h2 => ?_
      have hp : (bl s)[i]? = some p := by
        have := congrArg List.head? hu
        simpa using this
      have hq : (bl s)[i + 1]? = some q := by
        have := congrArg (fun l => l[1]?) hu
        simpa using this
      refine ixT_bl hp (ixT_bl hq ?_)
      refine clr c56 ⟨_, rfl, ?_⟩
      refine clr c56 ⟨_, rfl, ?_⟩
      have hx := wrt_lt p
      have hy := wrt_lt q
      have him : i + 2 ≤ s.size := by simp at hm; omega
      have e2 : IntKind.wrap .u8 (IntKind.wrap .i64 (IntKind.wrap .i64 ((wrt p : Int) * 16) + (wrt q : Int))) = ((wrt p * 16 + wrt q : Nat) : Int) := by
        have a1 : IntKind.wrap .i64 ((wrt p : Int) * 16) = (wrt p : Int) * 16 := wrap_i64 (by omega) (by omega)
        rw [a1]
        have a2 : IntKind.wrap .i64 ((wrt p : Int) * 16 + (wrt q : Int)) = (wrt p : Int) * 16 + (wrt q : Int) := wrap_i64 (by omega) (by omega)
        rw [a2, IntKind.wrap_u8]
        omega
      rw [e2]
      refine h2.alc fun nb w3 h3 => ?_
      have e : u8v [UInt8.ofNat (wrt p * 16 + wrt q)] = [.int .u8 ((wrt p * 16 + wrt q : Nat) : Int)] := by simp only [u8v, List.map_cons, List.map_nil]; rw [hex_byte hx hy]
      refine h3.append E25 1 rfl (m := 1) (news := u8v [UInt8.ofNat (wrt p * 16 + wrt q)]) (by simp [u8v]) (rd_blk (T := 5) (z := (0, 0)) ?_) (u8v_one _) (by omega) (by omega) fun a' c' w4 h4 _ => ?_
      · rw [e]
        exact h3.at 0 rfl
      · have h5 : Hs W (slP 5 1 a' (l1.length + 1) c' (u8v l1 ++ u8v [UInt8.ofNat (wrt p * 16 + wrt q)]) :: M) w4 := h4.erase 0
        rw [← u8v_app] at h5
        have e3 : IntKind.wrap .i64 ((i : Int) + 2) = ((i + 2 : Nat) : Int) := by rw [wrap_i64 (by omega) (by omega)]; omega
        have e4 : l1.length + 1 = (l1 ++ [UInt8.ofNat (wrt p * 16 + wrt q)]).length := by simp
        rw [e3]
        rw [e4] at h5 ⊢
        refine ih t.length (by simp at hm; omega) (l1 ++ [UInt8.ofNat (wrt p * 16 + wrt q)]) t (i + 2) k a' c' w4 ?_ rfl (by simp at hm; omega) (by simp at hm; omega) (by simp; omega) h5 ?_
        · have := congrArg (List.drop 2) hu
          rw [List.drop_drop] at this
          exact this
        · intro oa' oc' w' h'
          have e5 : l1 ++ [UInt8.ofNat (wrt p * 16 + wrt q)] ++ unhex t = l1 ++ unhex (p :: q :: t) := by simp [unhex]
          rw [e5] at h' ⊢
          exact hK oa' oc' w' h'
theorem c38 {s : ByteArray} (hsz : s.size ≤ 140737488355328) (h : Hs W M w) : Calls Tryz.prog 38 #[.string s] w (rt fun v w' => ∃ a c, v = .slice a (unhex (bl s)).length c ∧ Hs W (slP 5 1 a (unhex (bl s)).length c (u8v (unhex (bl s))) :: M) w') := by
  refine F38_ok ?_
  unfold F38
  simp only [rdS_mk]
  refine ⟨s.size + 1, F38_loop hsz s.size [] (bl s) 0 (s.size + 1) none 0 w rfl (bl_len s) (by omega) (by omega) (by simp) (h.nil 5 1) fun oa oc w' h' => ?_⟩
  intro _
  simp only [rdC_mk]
  rw [List.nil_append] at h' ⊢
  exact ⟨oa, oc, rfl, h'⟩
/-! value of digits, loosely -/
def val (l : List UInt8) (n : Nat) : Nat := l.foldl (fun n b => (n * 10 + ((b.toNat + 208) % 256) % 10) % 18446744073709551616) n
theorem val_dec (u : Nat) (hu : u < 18446744073709551616) : val (Lib.decDigits u) 0 = u := by
  induction u using Nat.strongRecOn with
  | _ u ih =>
    by_cases h : u < 10
    · rw [Lib.decDigits, dif_pos h]
      unfold val
      rw [List.foldl_cons, List.foldl_nil, dec_one h]
      omega
    · rw [Lib.decDigits, dif_neg h]
      have := ih (u / 10) (by omega) (by omega)
      unfold val at this ⊢
      rw [List.foldl_append, this, List.foldl_cons, List.foldl_nil, dec_one (Nat.mod_lt _ (by omega))]
      omega
theorem val_lt (l : List UInt8) (n : Nat) (hn : n < 18446744073709551616) : val l n < 18446744073709551616 := by
  induction l generalizing n with
  | nil => exact hn
  | cons b l ih => exact ih _ (Nat.mod_lt _ (by omega))
theorem F37_loop {s : ByteArray} {K0 : Value → World → Prop} (_ : s.size ≤ 140737488355328) :
    ∀ (m i n k : Nat), 20 - i = m → i ≤ 20 → m < k → n < 18446744073709551616 → i ≤ s.size →
      (∀ r, r = val (((bl s).take 20).drop i) n → K0 (.int .u64 (r : Int)) w) → F37_2 K0 k (.string s) (.int .u64 (n : Int)) (.int .i64 (i : Int)) w := by
  intro m
  induction m with
  | zero =>
    intro i n k hm hi hk hn his hK
    obtain ⟨k, rfl⟩ : ∃ i, k = i + 1 := ⟨k - 1, by omega⟩
    have hdr : ((bl s).take 20).drop i = [] := List.drop_of_length_le (by rw [List.length_take]; omega)
    rw [hdr] at hK
    show F37_2B _ _ _ _ _ _
    unfold F37_2B
    simp only [rdS_mk, rdI_mk]
    rw [br_dec]
    refine ⟨fun _ => ?_, fun _ => hK n rfl⟩
    rw [decide_eq_false (by omega), br_false]
    exact hK n rfl
  | succ m ih =>
    intro i n k hm hi hk hn his hK
    obtain ⟨k, rfl⟩ : ∃ i, k = i + 1 := ⟨k - 1, by omega⟩
    show F37_2B _ _ _ _ _ _
    unfold F37_2B
    simp only [rdS_mk, rdI_mk]
    rw [br_dec]
    refine ⟨fun hlt => ?_, fun hge => ?_⟩
    · have hlt : i < s.size := by omega
      rw [decide_eq_true (by omega), br_true]
      unfold F37_1
      simp only [rdS_mk, rdI_mk]
      have hb : i < (bl s).length := by rw [bl_len]; exact hlt
      refine ixT_bl (x := (bl s)[i]) (by simp [hb]) ?_
      intro _
      have hx := ((bl s)[i]).toNat_lt
      have e1 : IntKind.wrap .u64 ((IntKind.wrap .u64 ((n : Int) * 10)) + (Int.tmod (IntKind.wrap .u64 (IntKind.wrap .u8 (((bl s)[i].toNat : Int) - 48))) 10)) = (((n * 10 + (((bl s)[i].toNat + 208) % 256) % 10) % 18446744073709551616 : Nat) : Int) := by
        have a1 : IntKind.wrap .u8 (((bl s)[i].toNat : Int) - 48) = (((bl s)[i].toNat + 208) % 256 : Nat) := by rw [IntKind.wrap_u8]; omega
        rw [a1]
        have a2 : IntKind.wrap .u64 ((((bl s)[i].toNat + 208) % 256 : Nat) : Int) = ((((bl s)[i].toNat + 208) % 256 : Nat) : Int) := wrap_u64 (by omega) (by omega)
        rw [a2, Int.tmod_eq_emod_of_nonneg (by omega), IntKind.wrap_u64, IntKind.wrap_u64]
        omega
      have e2 : IntKind.wrap .i64 ((i : Int) + 1) = ((i + 1 : Nat) : Int) := by rw [wrap_i64 (by omega) (by omega)]; omega
      rw [e1, e2]
      refine ih (i + 1) _ k (by omega) (by omega) (by omega) (Nat.mod_lt _ (by omega)) (by omega) fun r hr => hK r ?_
      rw [hr]
      have hd : ((bl s).take 20).drop i = (bl s)[i] :: ((bl s).take 20).drop (i + 1) := by
        rw [List.drop_eq_getElem_cons (by rw [List.length_take]; omega), List.getElem_take]
      rw [hd]
      rfl
    · have hdr : ((bl s).take 20).drop i = [] := List.drop_of_length_le (by rw [List.length_take, bl_len]; omega)
      rw [hdr] at hK
      exact hK n rfl
def valS (s : ByteArray) : Nat := val ((bl s).take 20) 0
theorem c37 {s : ByteArray} (hsz : s.size ≤ 140737488355328) : Calls Tryz.prog 37 #[.string s] w (rt (KR (.int .u64 (valS s : Int)) w)) := by
  refine F37_ok ?_
  unfold F37
  simp only [rdS_mk]
  refine ⟨21, F37_loop hsz 20 0 0 21 rfl (by omega) (by omega) (by omega) (by omega) fun r hr => ?_⟩
  intro _
  simp only [rdI_mk]
  rw [hr]
  exact KR.mk _ _
theorem valS_dec {n : Nat} (hn : n < 18446744073709551616) : valS (bs (Lib.decDigits n)) = n := by
  unfold valS
  rw [bl_bs, List.take_of_length_le (by rw [Lib.decDigits_length]; exact Lib.nDigits_le20 n hn), val_dec n hn]
end
end Go.Proofs.YtilenpnpnbdndaaGreatDoor
