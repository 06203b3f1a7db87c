/- Own text: part of the shallow reading of the code and of the contracts that are proved over it. -/
import Derived.Test.YtnmgdeimngcbgaaNtN
import Derived.Laws.IdiomStrings
import Derived.Laws.BytesString
import Derived.Lib.SlBytesConst
namespace Go.Proofs.Ytnmgdeimngcbgaa
open Go Go.Sh
theorem u23 : Try.prog.underlying 23 = some (.slice 5) := by kernel_rfl
theorem u5 : Try.prog.underlying 5 = some (.int .u8) := by kernel_rfl
theorem u9 : Try.prog.underlying 9 = some .string := by kernel_rfl
def strOf (bs : List Int) : ByteArray := ⟨(bs.map fun x => UInt8.ofNat x.toNat).toArray⟩
theorem run_str {w : World} {a : Option Addr} {bs : List Int} {c : Nat} (hr : Rd w a (byV bs)) (hb : ∀ x ∈ bs, 0 ≤ x ∧ x < 256) : Sem.run Try.prog (convert 23 9 (.slice a bs.length c)) w = .ok (.string (strOf bs)) w := by
  cases a with
  | none =>
    have : bs = [] := by
      cases bs with
      | nil => rfl
      | cons x r => obtain ⟨ad, e⟩ := hr.some (by simp [byV]); cases e
    subst this
    show Sem.run Try.prog (convert 23 9 (.slice none 0 c)) w = _
    rw [run_convert_bytes_string w 23 9 5 none 0 c u23 u5 u9]
    rfl
  | some ad =>
    have h := run_convert_bytes_back (P := Try.prog) w 23 9 5 ad c (bs.map fun x => UInt8.ofNat x.toNat) u23 u5 u9 (fun j hj => by
      have hj' : j < bs.length := by simpa using hj
      have h1 := hr.at (j := j) (u := .int .u8 bs[j]) (by simp [byV, hj'])
      rw [h1]
      have hx := hb bs[j] (by simp)
      simp only [List.getElem_map]
      congr 2
      have : (UInt8.ofNat bs[j].toNat).toNat = bs[j].toNat := by
        simp [UInt8.toNat_ofNat']
        omega
      rw [this]; omega)
    rw [List.length_map] at h
    exact h
theorem conv_lit (w : World) (x : Int) : Sem.run Try.prog (convert 23 23 (.slice (some ⟨w.heap.size, 0, none⟩) 1 1)) (w.alloc (.cells #[.int .u8 x] 5)) = .ok (.slice (some ⟨w.heap.size, 0, none⟩) 1 1) (w.alloc (.cells #[.int .u8 x] 5 (1, 2))) := Go.Lib.run_convert_bytes_const w 23 5 #[.int .u8 x] 1 1 u23 u5
theorem new_block {w : World} {T : TypeId} {z : Nat × Nat} (bs : List Int) : Rd (w.alloc (.cells (byV bs).toArray T z)) (some ⟨w.heap.size, 0, none⟩) (byV bs) := fun j u hj => ⟨_, rfl, by rw [add_mk, cell_at (alloc_new w _)]; simpa using hj⟩
theorem c8 (w : World) : Calls Try.prog 8 #[] w (rt fun v w' => v = .bool true ∧ Same w w') := by
  refine F8_ok ?_
  unfold F8
  refine cl (c7 1 (by decide) w) ?_
  rintro _ w1 ⟨n, rfl, h1, ha, f1⟩
  refine ⟨_, _, rfl, ?_⟩
  have e0 : ((0 : Int) != 0) = false := rfl
  rw [e0, br_false]
  simp only [Option.isNone_some, br_false]
  unfold F8_1 alc
  simp only [rdP_mk]
  refine ⟨_, _, _, _, conv_lit w1 97, ?_⟩
  have z1 := f1.size
  have step : ∀ {n n' : Nt} {w1 w2 : World}, Same w w1 → Step w.heap.size n n' w1 w2 → NtR w1 w.heap.size n → Same w w2 := fun hf S h => ((hf.mono (S' := fun k => w.heap.size ≤ k) fun _ _ x => x.elim).trans S.fr fun i _ x => (h.foot_lt x).1).mono fun i hi x => by omega
  have fa : Same w1 (w1.alloc (.cells #[.int .u8 97] 5 (1, 2))) := (Fr.refl w1).alloc _
  have g2 := f1.trans fa fun _ _ x => x
  have h2 := h1.same fa
  have hout : ∀ k, inB (some (Addr.mk w1.heap.size 0 none)) k → k ∉ n.foot := fun k ⟨_, e, hk⟩ hf => by cases e; have := (h1.foot_lt hf).2; simp at hk; omega
  refine cl (c9 (bs := [97]) (c := 1) h2 0 0 5 (new_block [97]) (fun _ => hout) g2.size) ?_
  rintro _ w3 ⟨rfl, n3, S3, ha3⟩
  have k3 : n.abs.code 0 0 5 ([97] : List Int).length = 0 := by rw [ha]; decide
  rw [if_pos k3] at ha3
  rw [if_pos k3, k3]
  refine ⟨_, _, rfl, ?_⟩
  have g3 := step g2 S3 h2
  have ha3' : n3.abs = (NT.new 1).enter 0 0 5 false [97] := by rw [ha3, ha]
  have hn3 : n3.next = 1 := by
    have := congrArg NT.next ha3'
    exact this
  refine ⟨_, _, _, _, conv_lit w3 98, ?_⟩
  have fb : Same w3 (w3.alloc (.cells #[.int .u8 98] 5 (1, 2))) := (Fr.refl w3).alloc _
  have g4 := g3.trans fb fun _ _ x => x
  have h4 := S3.net.same fb
  have hout2 : ∀ k, inB (some (Addr.mk w3.heap.size 0 none)) k → k ∉ n3.foot := fun k ⟨_, e, hk⟩ hf => by cases e; have := (S3.net.foot_lt hf).2; simp at hk; omega
  rw [← S3.b]
  refine cl (c9 (bs := [98]) (c := 1) h4 0 0 6 (new_block [98]) (fun _ => hout2) g4.size) ?_
  rintro _ w5 ⟨rfl, n5, S5, ha5⟩
  have k5 : n3.abs.code 0 0 6 ([98] : List Int).length = 0 := by rw [ha3']; decide
  rw [if_pos k5] at ha5
  rw [if_pos k5, k5, hn3]
  refine ⟨_, _, rfl, ?_⟩
  have g5 := step g4 S5 h4
  have ha5' : n5.abs = ((NT.new 1).enter 0 0 5 false [97]).enter 0 0 6 false [98] := by rw [ha5, ha3']
  rw [← S5.b]
  refine cl (c12 S5.net 0 0 1) ?_
  rintro _ w6 ⟨n6, a6, bs6, c6, S6, ha6, rfl, r6, hb6⟩
  have k6 : n5.abs.atCode 0 0 1 = 0 := by rw [ha5']; decide
  rw [if_pos k6] at ha6 hb6
  have hb6' : bs6 = [98] := by rw [hb6, ha5']; rfl
  subst hb6'
  rw [k6]
  refine ⟨_, _, _, _, rfl, ?_⟩
  have g6 := step g5 S6 S5.net
  have ha6' : n6.abs = (((NT.new 1).enter 0 0 5 false [97]).enter 0 0 6 false [98]).deliver 0 0 1 := by rw [ha6, ha5']
  rw [← S6.b]
  refine cl (c11 S6.net 0 0) ?_
  rintro _ w7 ⟨a7, c7', rfl, o7, f7⟩
  have k7 : n6.abs.err 0 0 = 0 := by rw [ha6']; decide
  have p7 : n6.abs.ps 0 0 = [⟨0, 5, false, [97]⟩] := by rw [ha6']; rfl
  rw [if_pos k7, p7] at o7
  simp only [k7, p7, if_true]
  refine ⟨_, _, _, _, rfl, ?_⟩
  have g7 : Same w w7 := g6.trans f7 fun _ _ x => x
  simp only [beq_self_eq_true, br_true]
  refine ⟨strOf [98], w7, run_str (Rd.same r6 f7) (by simp), ?_⟩
  have es : (ByteArray.toList (strOf [98]) == ByteArray.toList ⟨#[98]⟩) = true := by simp [strOf]
  rw [es, br_true]
  have el : (((List.length [(⟨0, 5, false, [97]⟩ : PK)] : Nat) : Int) == 1) = true := rfl
  rw [el, br_true]
  obtain ⟨ad, rfl⟩ := o7.rd.some (by decide)
  refine ixS_of (Int.le_refl _) (by decide) ?_
  simp only [add_add]
  refine ldI_c (o7.rd.at (j := 0) rfl) (ldI_c (o7.rd.at (j := 1) rfl) (ldI_c (o7.rd.at (j := 2) rfl) (ldB_c (o7.rd.at (j := 3) rfl) ⟨true, w7, by kernel_rfl, fun _g => ?_⟩)))
  simp only [rdB_mk]
  exact ⟨trivial, g7⟩
end Go.Proofs.Ytnmgdeimngcbgaa
