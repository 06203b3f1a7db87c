/- Own text: part of the shallow reading of the code and of the contracts that are proved over it. -/
import Derived.Test.YtnmgdeimngcbgaaNuE
namespace Go.Proofs.Ytnmgdeimngcbgaa
open Go Go.Sh
/-! NetWhole -/
section
variable {W w : World} {b rb : Nat} {n r : NT} {L M : List HP} {sa : Option Addr} {sc : Nat} {ops : List OpA}
theorem upd_keep {n : NT} {k : Nat} {f : LN → LN} (hk : k ≠ 0) : (n.upd k f).lanes[0]? = n.lanes[0]? := by
  unfold NT.upd
  split
  · simp only
    rw [List.getElem?_set_ne hk]
  · rfl
theorem idx_ne {n : NT} {e p : Int} (h : n.has e p) (hp : p ≠ 0) : idx e p ≠ 0 := by
  obtain ⟨a, b, c, d⟩ := h
  unfold idx; omega
theorem act_keep {n : NT} {o : OpD} (hp : o.p ≠ 0) : (n.act o).lanes[0]? = n.lanes[0]? := by
  have hput : ∀ f, (n.okCode o.e o.p o.now f o.bs).lanes[0]? = n.lanes[0]? := fun f => by
    unfold NT.okCode
    split
    · rename_i hc
      have hh : n.has o.e o.p := by
        unfold NT.code at hc
        split at hc
        · assumption
        · cases hc
      unfold NT.enter
      exact upd_keep (idx_ne hh hp)
    · rfl
  have hturn : ∀ b, (n.trn o.p b).lanes[0]? = n.lanes[0]? := fun b => by
    unfold NT.trn
    split
    · rename_i hc
      have hh : n.has 0 o.p := by
        unfold NT.err at hc
        split at hc
        · assumption
        · cases hc
      have h1 : idx 0 o.p ≠ 0 := idx_ne hh hp
      have h2 : idx 1 o.p ≠ 0 := by obtain ⟨a, b, c, d⟩ := hh; unfold idx; omega
      unfold NT.turn
      split
      · unfold NT.loseAll
        rw [upd_keep h2, upd_keep h1]
      · rfl
    · rfl
  unfold NT.act
  split
  · exact hput _
  split
  · exact hput _
  split
  · unfold NT.dlv NT.deliver
    split
    · rename_i hc; exact upd_keep (idx_ne (has_of hc) hp)
    · rfl
  split
  · unfold NT.drp NT.drop
    split
    · rename_i hc; exact upd_keep (idx_ne (has_of hc) hp)
    · rfl
  split
  · unfold NT.twc NT.dup
    split
    · rename_i hc
      have hh : n.has o.e o.p := by
        unfold NT.twiceCode at hc
        split at hc
        · rename_i h0; exact has_of h0
        · rename_i h0; exact absurd hc h0
      exact upd_keep (idx_ne hh hp)
    · rfl
  split
  · unfold NT.spl
    split
    · rename_i hc
      have hh : n.has o.e o.p := by
        unfold NT.splCode at hc
        split at hc
        · rename_i h0; exact has_of h0
        · rename_i h0; exact absurd hc h0
      exact upd_keep (idx_ne hh hp)
    · rfl
  split
  · exact hturn _
  split
  · exact hturn _
  · rfl
variable {l1 : Option Addr} {n1 c1 : Nat} {l2 : Option Addr} {n2 c2 : Nat} {now id : Int}
theorem c3_xor {a : Option Addr} {m c : Nat} {K0 : Value → Value → Value → Value → Value → World → Prop} (hm : m ≤ 140737488355328) : ∀ (i j : Nat) (bs : List Int) (w : World) (k : Nat), j + i = m → bs.length = m → Hs W (slP 5 1 a m c (byV bs) :: L) w → i < k →
    (∀ w' bs', Hs W (slP 5 1 a m c (byV bs') :: L) w' → K0 (.slice l1 n1 c1) (.slice l2 n2 c2) (.int .i64 now) (.pointer (some ⟨b, 0, none⟩)) (.int .i64 id) w') →
    F3_4 K0 k (.slice l1 n1 c1) (.slice l2 n2 c2) (.int .i64 now) (.pointer (some ⟨b, 0, none⟩)) (.slice a m c) (.int .i64 id) (.int .i64 (m : Int)) (.int .i64 (j : Int)) w := by
  intro i
  induction i with
  | zero =>
    intro j bs w k hj hb hw hk hK
    obtain ⟨k, rfl⟩ : ∃ j, k = j + 1 := ⟨k - 1, by omega⟩
    show F3_4B _ _ _ _ _ _ _ _ _ _ _
    unfold F3_4B
    simp only [rdP_mk, rdC_mk, rdI_mk, br_dec]
    exact ⟨fun h => by exfalso; omega, fun _ => hK w bs hw⟩
  | succ i ih =>
    intro j bs w k hj hb hw hk hK
    obtain ⟨k, rfl⟩ : ∃ j, k = j + 1 := ⟨k - 1, by omega⟩
    show F3_4B _ _ _ _ _ _ _ _ _ _ _
    unfold F3_4B
    simp only [rdP_mk, rdC_mk, rdI_mk, br_dec]
    refine ⟨fun _ => ?_, fun h => by exfalso; omega⟩
    obtain ⟨x, hx⟩ : ∃ x, bs[j]? = some x := ⟨bs[j]'(by omega), by simp⟩
    have hr := hw.rd 0 rfl
    obtain ⟨ad, ha⟩ := hr.some (by rw [byV_length]; omega)
    subst ha
    refine ixS_of (by omega) (by omega) ?_
    simp only [Int.toNat_natCast, Nat.mul_one]
    refine ldI_c (hr.at (u := .int .u8 x) (by simp [byV, hx])) (ixS_of (by omega) (by omega) ?_)
    simp only [Int.toNat_natCast, Nat.mul_one]
    refine hw.put 0 rfl (by rw [byV_length]; omega) fun w' h' => ?_
    have e1 : IntKind.wrap .i64 ((j : Int) + 1) = ((j + 1 : Nat) : Int) := by rw [wrap_i64 (by omega) (by omega)]; omega
    rw [e1]
    have e2 : (byV bs).set j (.int .u8 (bitI .xor .u8 x 255)) = byV (bs.set j (bitI .xor .u8 x 255)) := by simp [byV, List.map_set]
    refine ih (j + 1) (bs.set j (bitI .xor .u8 x 255)) w' k (by omega) (by simpa using hb) ?_ (by omega) hK
    rw [← e2]
    exact h'
theorem c3_loop {q0 : LN} (hr : Rd W sa (ops.flatMap opAV)) (ho : ∀ q ∈ ops, OpOk W q) (hl : ops.length ≤ maxLen) {K2 : Value → Value → Value → Value → World → Prop} : ∀ (i j : Nat) (n : NT) (w : World) (k : Nat), j + i = ops.length → Hs W (netP b n :: []) w → n.fine → n.lanes[0]? = some q0 → i < k →
    (∀ w' n', Hs W (netP b n' :: []) w' → n'.fine → n'.lanes[0]? = some q0 → K2 (.slice l2 n2 c2) (.int .i64 now) (.pointer (some ⟨b, 0, none⟩)) (.int .i64 id) w') →
    F3_2 K2 k (.slice sa ops.length sc) (.slice l2 n2 c2) (.int .i64 now) (.pointer (some ⟨b, 0, none⟩)) (.int .i64 id) (.int .i64 (j : Int)) w := by
  intro i
  induction i with
  | zero =>
    intro j n w k hj hw hf ht hk hK
    obtain ⟨k, rfl⟩ : ∃ j, k = j + 1 := ⟨k - 1, by omega⟩
    show F3_2B _ _ _ _ _ _ _ _ _
    unfold F3_2B
    simp only [rdP_mk, rdC_mk, rdI_mk, br_dec]
    exact ⟨fun h => by exfalso; omega, fun _ => hK w n hw hf ht⟩
  | succ i ih =>
    intro j n w k hj hw hf ht hk hK
    obtain ⟨k, rfl⟩ : ∃ j, k = j + 1 := ⟨k - 1, by omega⟩
    show F3_2B _ _ _ _ _ _ _ _ _
    unfold F3_2B
    simp only [rdP_mk, rdC_mk, rdI_mk, br_dec]
    refine ⟨fun _ => ⟨fun _ => ?_, fun _ => hK w n hw hf ht⟩, fun _ => hK w n hw hf ht⟩
    unfold F3_1
    simp only [rdP_mk, rdC_mk, rdI_mk]
    obtain ⟨q, hq⟩ : ∃ x, ops[j]? = some x := ⟨ops[j]'(by omega), by simp⟩
    have hrw := hw.rd_old hr
    obtain ⟨ad, ha⟩ := hrw.some (by rw [flat_length opAV_len]; omega)
    have g : ∀ {k : Nat} {v : Value}, (opAV q)[k]? = some v → w.cell? (ad.add (j * 8 + k)) = some v := fun hv => op_cells hrw hq ha hv
    have hq0 := ho q (List.mem_of_getElem? hq)
    have e1 : IntKind.wrap .i64 ((j : Int) + 1) = ((j + 1 : Nat) : Int) := by
      have : ops.length < 9223372036854775808 := by unfold maxLen at hl; omega
      rw [wrap_i64 (by omega) (by omega)]; omega
    subst ha
    refine ixS_of (by omega) (by omega) ?_
    simp only [Int.toNat_natCast, add_add, add_mk]
    refine ldI_c (g rfl) (ldI_c (g rfl) (ldI_c (g rfl) (ldI_c (g rfl) (ldI_c (g rfl) (ldI_c (g rfl) (ldI_c (g rfl) (ldC_c (g rfl) ?_)))))))
    refine hw.alc fun bl w1 h1 => h1.stc 0 rfl (by simp) fun w2 h2 => h2.stc 0 rfl (by simp) fun w3 h3 => h3.stc 0 rfl (by simp) fun w4 h4 => ?_
    replace h4 : Hs W (pt bl (.cells #[.int .i64 q.o.k, .int .i64 q.o.e, .int .i64 q.o.p, .int .i64 0, .int .i64 0, .int .i64 0, .int .u8 0, .slice none 0 0] 32) :: netP b n :: []) w4 := h4
    clear h3 h2 h1
    refine h4.stc 0 rfl (by simp) fun w5 h5 => h5.stc 0 rfl (by simp) fun w6 h6 => h6.stc 0 rfl (by simp) fun w7 h7 => ?_
    replace h7 : Hs W (pt bl (.cells #[.int .i64 q.o.k, .int .i64 q.o.e, .int .i64 q.o.p, .int .i64 q.o.i, .int .i64 q.o.x, .int .i64 q.o.now, .int .u8 0, .slice none 0 0] 32) :: netP b n :: []) w7 := h7
    clear h6 h5 h4
    refine h7.stc 0 rfl (by simp) fun w8 h8 => h8.stc 0 rfl (by simp) fun w9 h9 => ?_
    have h10 : Hs W (pt bl (.cells (opV q.o q.a q.c).toArray 32) :: netP b n :: []) w9 := h9
    clear h9 h8 h7
    refine h10.ldI 0 rfl rfl ?_
    by_cases hp : q.o.p = 0
    · have ep : (q.o.p != 0) = false := by simp [hp]
      rw [ep, br_false]
      intro _g
      rw [e1]
      exact ih (j + 1) n w9 k (by omega) (h10.erase 0) hf ht (by omega) hK
    · have ep : (q.o.p != 0) = true := by simpa using hp
      rw [ep, br_true]
      refine h10.alc fun rb w11 h11 => ?_
      refine h11.ldI 1 rfl rfl (h11.ldI 1 rfl rfl (h11.ldI 1 rfl rfl (h11.ldI 1 rfl rfl (h11.ldI 1 rfl rfl (h11.ldI 1 rfl rfl (h11.ldI 1 rfl rfl (h11.ldC 1 rfl rfl ?_)))))))
      have h12 : Hs W (refP rb NT.nil :: pt bl (.cells (opV q.o q.a q.c).toArray 32) :: netP b n :: []) w11 := ref_empty h11
      have h13 : Hs W (netP b n :: refP rb NT.nil :: []) w11 := (h12.erase 1).focus (i := 1) rfl
      refine cl (c10 h13 q.o (hq0.src _) hf nil_fine) ?_
      rintro _ w12 ⟨t, rfl, _, h14⟩
      refine ⟨_, rfl, fun _g => ?_⟩
      rw [e1]
      exact ih (j + 1) (n.act q.o) w12 k (by omega) (h14.erase 1) (fine_act hf hq0.2.2) (by rw [act_keep hp]; exact ht) (by omega) hK
theorem c3 (m : Int) (hm : -9223372036854775808 ≤ m ∧ m ≤ 9223372036854775807) (hr : Rd W sa (ops.flatMap opAV)) (ho : ∀ q ∈ ops, OpOk W q) (hl : ops.length ≤ maxLen) {ba : Option Addr} {bs : List Int} {bc : Nat} (hb : Rd W ba (byV bs)) (hbc : ba = none → bc = 0) (hbo : okB bs) (hbl : bs.length ≤ 140737488355328) (now : Int) :
    Calls Try.prog 3 #[.int .i64 m, .slice sa ops.length sc, .slice ba bs.length bc, .int .i64 now] W (rt fun v w' => v = .bool true ∧ Same W w') := by
  have fin : ∀ w, Same W w → Calls Try.prog 8 #[] w (rt fun v w' => v = .bool true ∧ Same W w') := fun w hs => rt_mono (c8 w) fun v w' ⟨e, h⟩ => ⟨e, hs.trans h fun _ _ x => x⟩
  have d1 : ∀ {w : World} {R : Ending → World → Prop}, Same W w → (∀ w', Same W w' → R (.returned (.bool true)) w') → Calls Try.prog 8 #[] w R := fun hs hk => cl (fin _ hs) fun v w' ⟨e, s⟩ => by rw [e]; exact hk w' s
  refine F3_ok ?_
  unfold F3
  simp only [rdC_mk, rdI_mk]
  by_cases hmb : 1 ≤ m ∧ m ≤ 8
  · obtain ⟨k, rfl⟩ : ∃ k : Nat, m = k := ⟨m.toNat, by omega⟩
    refine cl (s7 (Hs.start W) k ⟨by omega, by omega⟩) ?_
    rintro _ w1 ⟨b, rfl, h1⟩
    refine ⟨_, _, rfl, ?_⟩
    have e00 : ((0 : Int) != 0) = false := rfl
    rw [e00, br_false]
    simp only [Option.isNone_some, br_false]
    unfold F3_5
    simp only [rdP_mk, rdC_mk, rdI_mk]
    refine ⟨_, _, _, _, run_b0 w1, ?_⟩
    have h2 := h1.void 5 1
    generalize w1.alloc (.cells #[] 5) = w2 at h2 ⊢
    refine h2.appendA E23 0 rfl (by rw [byV_length]; omega) (h2.rd_old hb) hbc (byV_one bs) (by omega) (by omega) ?_
    intro a7 c7 w3 h3 _
    simp only [Nat.zero_add, List.nil_append] at h3 ⊢
    have h4 : Hs W (netP b (NT.new k) :: slP 5 1 a7 bs.length c7 (byV bs) :: []) w3 := Hs.focus (i := 1) (L := slP 5 1 a7 bs.length c7 (byV bs) :: netP b (NT.new k) :: []) h3 rfl
    have hsrc : Src W (slP 5 1 a7 bs.length c7 (byV bs) :: []) a7 c7 bs := ⟨nilc (e := 5) (s := 1) (l := bs.length) (xs := byV bs) h4 (by simp), .inr ⟨5, 1, bs.length, c7, by simp⟩⟩
    refine cl (s9 h4 0 0 now hsrc) ?_
    rintro _ w4 ⟨rfl, h5⟩
    refine ⟨_, _, rfl, ?_⟩
    by_cases hc : (NT.new k).code 0 0 now bs.length = 0
    · have ec : ((NT.new k).code 0 0 now bs.length != 0) = false := by rw [hc]; rfl
      rw [ec, br_false]
      have hid : (NT.new k).pid ((NT.new k).code 0 0 now bs.length) = 0 := by unfold NT.pid; rw [hc]; rfl
      rw [hid]
      obtain ⟨n1, hn1⟩ : ∃ n1, n1 = (NT.new k).okCode 0 0 now false bs := ⟨_, rfl⟩
      rw [← hn1] at h5
      have hf1 : n1.fine := by
        have := fine_act (o := ⟨1, 0, 0, 0, 0, now, 0, bs⟩) (fine_new k) hbo
        rw [hn1]; exact this
      have hl1 : n1.lanes[0]? = some ⟨1, 0, 0, 0, [⟨0, now, false, bs⟩]⟩ := by
        rw [hn1]
        unfold NT.okCode NT.enter
        rw [if_pos hc]
        have h0 : (NT.new k).lanes[0]? = some LN.zero := by
          unfold NT.new
          simp only
          rw [List.getElem?_replicate, if_pos (by omega)]
        have hi : idx 0 0 = 0 := rfl
        have hdn : (NT.new k).isDown 0 = false := by
          unfold NT.isDown NT.new
          simp only
          rw [show (0 : Int).toNat = 0 from rfl, List.getElem?_replicate, if_pos (by omega)]
          rfl
        rw [hi, upd_abs h0, hdn]
        have h00 : 0 < (NT.new k).lanes.length := (List.getElem?_eq_some_iff.1 h0).1
        simp only [List.getElem?_set, if_true, h00]
        rfl
      have h6 : Hs W (slP 5 1 a7 bs.length c7 (byV bs) :: netP b n1 :: []) w4 := h5.focus (i := 1) rfl
      refine ⟨bs.length + 1, c3_xor hbl bs.length 0 bs w4 _ (by omega) rfl h6 (by omega) fun w5 bs' h7 _g => ?_⟩
      simp only [rdP_mk, rdC_mk, rdI_mk]
      refine ⟨ops.length + 1, c3_loop hr ho hl ops.length 0 n1 w5 _ (by omega) (h7.erase 0) hf1 hl1 (by omega) fun w6 n2 h8 hf2 hl2 _g => ?_⟩
      simp only [rdP_mk, rdC_mk, rdI_mk]
      have hi : idx 0 0 = 0 := rfl
      have hlen := net_lens h8
      have hh : n2.has 0 0 := ⟨by omega, by omega, by omega, by omega⟩
      have herr : n2.err 0 0 = 0 := by unfold NT.err; rw [if_pos hh]
      have hfl : n2.fl 0 0 = [⟨0, now, false, bs⟩] := by unfold NT.fl NT.ps; rw [herr, if_pos rfl, hi, hl2]; rfl
      have hat : n2.atCode 0 0 0 = 0 := by
        unfold NT.atCode NT.many
        rw [if_pos hh, hi, hl2]; rfl
      have hgot : n2.got 0 0 0 = bs := by unfold NT.got NT.pkt; rw [hat, if_pos rfl, hi, hl2]; rfl
      refine cl (s11 h8 0 0) ?_
      rintro _ w7 ⟨a8, c8', rfl, h9, _⟩
      rw [herr, hfl] at *
      refine ⟨_, _, _, _, rfl, ?_⟩
      have e01 : ((([(⟨0, now, false, bs⟩ : PK)].length : Nat) : Int) != 1) = false := rfl
      rw [e00, br_false, e01, br_false]
      have hr9 := h9.rd 0 rfl
      obtain ⟨ad, ha⟩ := hr9.some (by rw [flV_length]; simp)
      subst ha
      refine ixS_of (by omega) (by simp) ?_
      simp only [add_add]
      refine ldI_c (hr9.at (j := 0) rfl) ?_
      rw [e00, br_false]
      refine ixS_of (by omega) (by simp) ?_
      simp only [add_add]
      refine ldI_c (hr9.at (j := 1) rfl) ?_
      have e02 : (now != now) = false := by simp
      rw [e02, br_false]
      unfold F3_3
      simp only [rdP_mk, rdC_mk]
      refine cl (s12 (h9.focus (i := 1) rfl) 0 0 0) ?_
      rintro _ w8 ⟨a10, c10', rfl, h10⟩
      rw [hat, hgot] at *
      refine ⟨_, _, _, _, rfl, ?_⟩
      rw [show ((0 : Int) == 0) = true from rfl, br_true]
      refine ⟨_, _, run_str (h10.rd 0 rfl) hbo, _, _, run_str (h10.rd_old hb) hbo, ?_⟩
      rw [beq_self_eq_true, br_true]
      refine d1 h10.1 fun w' s => ⟨_, rfl, fun _g => ?_⟩
      simp only [rdB_mk]
      intro _g
      exact ⟨trivial, s⟩
    · have ec : ((NT.new k).code 0 0 now bs.length != 0) = true := by simpa using hc
      rw [ec, br_true]
      refine d1 h5.1 fun w' s => ⟨_, rfl, fun _g => ?_⟩
      simp only [rdB_mk]
      exact ⟨trivial, s⟩
  · refine clr (c7_bad m (by omega) W) ⟨_, _, rfl, ?_⟩
    have e00 : ((1 : Int) != 0) = true := rfl
    rw [e00, br_true, br_true]
    exact d1 (Fr.refl W) fun w' s => ⟨_, rfl, rfl, s⟩
end
end Go.Proofs.Ytnmgdeimngcbgaa
