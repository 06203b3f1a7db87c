/- Own text: part of the shallow reading of the code and of the contracts that are proved over it. -/
import Derived.Test.YtccffjlahpfdaaaDoorIpX1
namespace Go.Proofs.YtccffjlahpfdaaaDoor
open Go Go.Sh Go.Sp

/-! the law SpansOrder -/
def nums (cum : Int) (S : List Nat) : List Int := S.map fun (d : Nat) => (cum + (d : Int)) % 4294967296
theorem numV_nums (cum : Int) (S : List Nat) : numV cum S = (nums cum S).map (Value.int .u32) := by simp [numV, nums]
theorem nums_length (cum : Int) (S : List Nat) : (nums cum S).length = S.length := by simp [nums]
section
variable {n : Int} {X : List Int} {a : Option Addr} {cc : Nat}
end
end Go.Proofs.YtccffjlahpfdaaaDoor

namespace Go.Proofs.YtccffjlahpfdaaaDoor
open Go Go.Sh Go.Sp

/-! From: the set of a report -/
section
variable {w : World} {b m : Nat} {cum : Int} {S : List Nat}
theorem c62 {d : Nat} (h : SetR w b m cum S) (h2 : 2 ≤ d) (h3 : d ≤ 65535) : Calls Tryd.prog 62 #[.pointer (some ⟨b, 0, none⟩), .int .i64 (d : Int)] w (rt fun v w' => v = .bool (!decide (d ∈ S)) ∧ SetR w' b m cum (ins d S) ∧ Fr (Bm b m) w w') := by
  by_cases hm : d ∈ S
  · refine rt_mono (c62_old h.fld (by omega) hm) ?_
    rintro _ _ ⟨rfl, rfl⟩
    rw [ins_same h.rising hm]
    exact ⟨by simp [hm], h.same (Fr.refl w).drew, (Fr.refl w).drew⟩
  · refine rt_mono (c62_new h.fld (by omega) hm (by have := h.len; omega)) ?_
    rintro _ w' ⟨rfl, h4, h5⟩
    refine ⟨by simp [hm], ⟨h4, ins_rising h.rising, fun e he => ?_, h.c0, h.c1⟩, h5⟩
    rcases mem_ins.1 he with rfl | he
    · omega
    · exact h.rng e he
end
/-- a set of this call's own, of the distances that are Q -/
structure SetU (w0 : World) (b m : Nat) (cum : Int) (Q : Nat → Prop) (S : List Nat) (w : World) : Prop where
  set : SetR w b m cum S
  mem : ∀ x, x ∈ S ↔ Q x
  nb : w0.heap.size ≤ b
  nm : w0.heap.size ≤ m
  fr : Same w0 w
section
variable {n : Int} {G : List (Nat × Nat)} {a : Option Addr} {cc : Nat} {b m : Nat} {cum : Int}
def inG (G : List (Nat × Nat)) (x : Nat) : Prop := ∃ p ∈ G, p.1 ≤ x ∧ x ≤ p.2
def badG (p : Nat × Nat) : Prop := p.1 < 2 ∨ p.2 < p.1
/-- what From answers -/
def FromR (w w' : World) (n : Int) (G : List (Nat × Nat)) (v : Value) : Prop :=
  (4096 < G.length ∧ v = .tuple #[.pointer none, .int .i64 3] ∧ Same w w') ∨
  (G.length ≤ 4096 ∧ (∃ p ∈ G, badG p) ∧ v = .tuple #[.pointer none, .int .i64 30] ∧ Same w w') ∨
  (G.length ≤ 4096 ∧ (∀ p ∈ G, ¬ badG p) ∧ ∃ b m S, v = .tuple #[.pointer (some ⟨b, 0, none⟩), .int .i64 0] ∧ SetU w b m n (inG G) S w')
end
end Go.Proofs.YtccffjlahpfdaaaDoor

namespace Go.Proofs.YtccffjlahpfdaaaDoor
open Go Go.Sh Go.Sp

/-! the law SpansBack -/
theorem gapA_inv (S : List Nat) (h : S.Pairwise (· < ·)) : (∀ p ∈ gapA S, p.1 ∈ S ∧ p.2 ∈ S ∧ p.1 ≤ p.2) ∧ (∀ x, x ∈ S ↔ inG (gapA S) x) ∧ (gapA S).length ≤ S.length := by
  revert h
  refine snocInd (P := fun S => S.Pairwise (· < ·) → (∀ p ∈ gapA S, p.1 ∈ S ∧ p.2 ∈ S ∧ p.1 ≤ p.2) ∧ (∀ x, x ∈ S ↔ inG (gapA S) x) ∧ (gapA S).length ≤ S.length) (fun _ => by simp [gapA, inG]) ?_ S
  intro r d ih h
  obtain ⟨i1, i2, i3⟩ := ih (List.pairwise_append.1 h).1
  have hlt : ∀ e ∈ r, e < d := fun e he => (List.pairwise_append.1 h).2.2 e he d (by simp)
  rw [gapA_snoc]
  rcases List.eq_nil_or_concat (gapA r) with hnil | ⟨L, p, hL⟩
  · rw [hnil] at i1 i2 i3 ⊢
    have hr : r = [] := by
      cases r with
      | nil => rfl
      | cons x r => exact absurd ((i2 x).1 (by simp)) (by simp [inG])
    subst hr
    refine ⟨by simp [gstep], fun x => ?_, by simp [gstep]⟩
    simp [gstep, inG]; omega
  · rw [List.concat_eq_append] at hL
    rw [hL] at i1 i2 i3 ⊢
    rw [gstep_snoc]
    obtain ⟨q1, q2, q3⟩ := i1 p (by simp)
    have q4 := hlt _ q2
    by_cases hp : p.2 + 1 = d
    · rw [if_pos hp]
      refine ⟨fun q hq => ?_, fun x => ?_, by simp at i3 ⊢; omega⟩
      · rcases List.mem_append.1 hq with hq | hq
        · obtain ⟨a1, a2, a3⟩ := i1 q (by simp [hq])
          exact ⟨by simp [a1], by simp [a2], a3⟩
        · simp at hq; subst hq
          exact ⟨by simp [q1], by simp, by simp; omega⟩
      · rw [List.mem_append, i2 x, List.mem_singleton]
        constructor
        · rintro (⟨q, hq, hx⟩ | rfl)
          · rcases List.mem_append.1 hq with hq | hq
            · exact ⟨q, by simp [hq], hx⟩
            · simp at hq; subst hq
              exact ⟨(q.1, d), by simp, hx.1, by simp; omega⟩
          · exact ⟨(p.1, x), by simp, by simp; omega, Nat.le_refl _⟩
        · rintro ⟨q, hq, hx⟩
          rcases List.mem_append.1 hq with hq | hq
          · exact .inl ⟨q, by simp [hq], hx⟩
          · simp at hq; subst hq
            simp only at hx
            by_cases hxd : x = d
            · exact .inr hxd
            · exact .inl ⟨p, by simp, hx.1, by omega⟩
    · rw [if_neg hp]
      refine ⟨fun q hq => ?_, fun x => ?_, by simp at i3 ⊢; omega⟩
      · rcases List.mem_append.1 hq with hq | hq
        · obtain ⟨a1, a2, a3⟩ := i1 q hq
          exact ⟨by simp [a1], by simp [a2], a3⟩
        · simp at hq; subst hq
          exact ⟨by simp, by simp, Nat.le_refl _⟩
      · rw [List.mem_append, i2 x, List.mem_singleton]
        constructor
        · rintro (⟨q, hq, hx⟩ | rfl)
          · exact ⟨q, by simp at hq ⊢; rcases hq with hq | hq <;> simp [hq], hx⟩
          · exact ⟨(x, x), by simp, Nat.le_refl _, Nat.le_refl _⟩
        · rintro ⟨q, hq, hx⟩
          rcases List.mem_append.1 hq with hq | hq
          · exact .inl ⟨q, hq, hx⟩
          · simp at hq; subst hq
            simp only at hx
            exact .inr (by omega)
theorem nodup_sub_len {α : Type} [DecidableEq α] : ∀ (l l' : List α), l.Nodup → (∀ x ∈ l, x ∈ l') → l.length ≤ l'.length
  | [], _, _, _ => Nat.zero_le _
  | a :: r, l', hn, hs => by
    rw [List.nodup_cons] at hn
    have ha := hs a (by simp)
    have := nodup_sub_len r (l'.erase a) hn.2 fun x hx => (List.mem_erase_of_ne (fun e => hn.1 (by rw [← e]; exact hx))).2 (hs x (by simp [hx]))
    rw [List.length_erase_of_mem ha] at this
    have := List.length_pos_of_mem ha
    simp; omega
theorem In.len {xs : List Int} {k : Nat} {S : List Nat} (h : In xs k S) : S.length ≤ xs.length := by
  have := nodup_sub_len (S.map fun (d : Nat) => ((k + d : Nat) : Int)) xs ?_ ?_
  · simpa using this
  · unfold List.Nodup
    rw [List.pairwise_map]
    exact h.rising.imp fun hab => by omega
  · intro x hx
    obtain ⟨d, hd, rfl⟩ := List.mem_map.1 hx
    exact ((h.mem (k + d)).1 (.inr ⟨d, hd, rfl⟩)).2
section
variable {n : Int} {X : List Int} {a : Option Addr} {cc : Nat}
end
end Go.Proofs.YtccffjlahpfdaaaDoor

namespace Go.Proofs.YtccffjlahpfdaaaDoor
open Go Go.Sh Go.Sp

/-! the law SpansAll -/
theorem Pres.refl (w : World) : Pres w w := ⟨Nat.le_refl _, fun _ _ h => h, fun _ _ _ h => h⟩
theorem missA_inv (S : List Nat) (h : S.Pairwise (· < ·)) (h1 : ∀ d ∈ S, 1 ≤ d) : (missA S).1.length + S.length + 1 = (missA S).2 ∧ (∀ x ∈ (missA S).1, 1 ≤ x ∧ x < (missA S).2 ∧ x ∉ S) ∧ (missA S).1.Pairwise (· < ·) ∧ (∀ d ∈ S, d < (missA S).2) := by
  revert h h1
  refine snocInd (P := fun S => S.Pairwise (· < ·) → (∀ d ∈ S, 1 ≤ d) → (missA S).1.length + S.length + 1 = (missA S).2 ∧ (∀ x ∈ (missA S).1, 1 ≤ x ∧ x < (missA S).2 ∧ x ∉ S) ∧ (missA S).1.Pairwise (· < ·) ∧ (∀ d ∈ S, d < (missA S).2)) (by simp [missA]) ?_ S
  intro r d ih h h1
  obtain ⟨i1, i2, i3, i4⟩ := ih (List.pairwise_append.1 h).1 fun e he => h1 e (by simp [he])
  have h3 := (List.pairwise_append.1 h).2.2
  have hd : (missA r).2 ≤ d := by
    rw [missA_next]
    rcases List.eq_nil_or_concat r with rfl | ⟨r', e, rfl⟩
    · have := h1 d (by simp); simpa using this
    · have := h3 e (by simp) d (by simp)
      simp [List.getLastD_eq_getLast?]; omega
  rw [missA_snoc]
  simp only [mstep, List.length_append, List.length_range', List.length_singleton]
  refine ⟨by omega, fun x hx => ?_, ?_, fun e he => ?_⟩
  · rcases List.mem_append.1 hx with hx | hx
    · obtain ⟨a1, a2, a3⟩ := i2 x hx
      exact ⟨a1, by omega, by simp only [List.mem_append, List.mem_singleton, not_or]; exact ⟨a3, by omega⟩⟩
    · simp only [List.mem_range'_1] at hx
      have hn : 1 ≤ (missA r).2 := by rw [missA_next]; omega
      refine ⟨by omega, by omega, ?_⟩
      simp only [List.mem_append, List.mem_singleton, not_or]
      exact ⟨fun hr => by have := i4 x hr; omega, by omega⟩
  · rw [List.pairwise_append]
    refine ⟨i3, List.pairwise_lt_range', fun x hx y hy => ?_⟩
    simp only [List.mem_range'_1] at hy
    have := i2 x hx
    omega
  · rcases List.mem_append.1 he with he | he
    · have := i4 e he; omega
    · simp at he; omega
section
variable {n : Int} {X : List Int} {a : Option Addr} {cc : Nat} {b m : Nat} {cum : Int} {S L : List Nat} {N : Int}
theorem off_range (cum : Int) (x : Nat) : 0 ≤ (cum + (x : Int)) % 4294967296 ∧ (cum + (x : Int)) % 4294967296 < 4294967296 := ⟨Int.emod_nonneg _ (by decide), Int.emod_lt_of_pos _ (by decide)⟩
end
end Go.Proofs.YtccffjlahpfdaaaDoor

namespace Go.Proofs.YtccffjlahpfdaaaDoor
open Go Go.Sh Go.Sp

/-! a set that nobody made -/
def Un (w : World) (p : Option Addr) : Prop := p = none ∨ ∃ b cs T, p = some ⟨b, 0, none⟩ ∧ w.heap[b]? = some (.cells cs T (0, 0)) ∧ cs[0]? = some (.map none)
theorem Un.same {w w' : World} {p : Option Addr} (h : Un w p) (hf : Same w w') : Un w' p := by
  rcases h with h | ⟨b, cs, T, h1, h2, h3⟩
  · exact .inl h
  · exact .inr ⟨b, cs, T, h1, hf.blk h2 fun x => x, h3⟩
section
variable {w : World} {p : Option Addr}
theorem u60 (h : Un w p) : Calls Tryd.prog 60 #[.pointer p] w (rt (KR (.bool false) w)) := by
  rcases h with rfl | ⟨b, cs, T, rfl, h2, h3⟩
  · exact c60_nil w
  · exact c60_un h2 h3
theorem u36 (h : Un w p) (t : Int) : Calls Tryd.prog 36 #[.pointer p, .int .u32 t] w (rt (KR (.tuple #[.bool false, .int .i64 4]) w)) := by
  refine F36_ok ?_
  unfold F36
  simp only [rdP_mk, rdI_mk]
  refine clr (u60 h) ⟨_, rfl, ?_⟩
  simp only [Bool.not_false, br_true]
  exact KR.mk _ _
theorem u57 (h : Un w p) (t : Int) : Calls Tryd.prog 57 #[.pointer p, .int .u32 t] w (rt (KR (.bool false) w)) := by
  refine F57_ok ?_
  unfold F57
  simp only [rdP_mk, rdI_mk]
  refine clr (u60 h) ⟨_, rfl, ?_⟩
  simp only [Bool.not_false, br_true]
  exact KR.mk _ _
theorem u53 (h : Un w p) (t : Int) : Calls Tryd.prog 53 #[.pointer p, .int .u32 t] w (rt (KR (.bool false) w)) := by
  refine F53_ok ?_
  unfold F53
  simp only [rdP_mk, rdI_mk]
  refine clr (u60 h) ⟨_, rfl, ?_⟩
  simp only [Bool.not_false, br_true]
  exact KR.mk _ _
theorem u35 (h : Un w p) : Calls Tryd.prog 35 #[.pointer p] w (rt (KR (.int .u32 0) w)) := by
  refine F35_ok ?_
  unfold F35
  simp only [rdP_mk]
  refine clr (u60 h) ⟨_, rfl, ?_⟩
  simp only [Bool.not_false, br_true]
  exact KR.mk _ _
theorem u55 (h : Un w p) : Calls Tryd.prog 55 #[.pointer p] w (rt fun v w' => v = .slice none 0 0 ∧ Same w w') := by
  refine F55_ok ?_
  unfold F55 alc
  simp only [rdP_mk]
  have f1 : Same w (w.alloc (.cells #[.pointer p] 77)) := (Fr.refl w).alloc _
  refine ldP_at (alloc_new _ _) rfl ?_
  refine clr (u60 (h.same f1)) ⟨_, rfl, ?_⟩
  simp only [Bool.not_false, br_true]
  exact ⟨trivial, f1⟩
end
section
variable {t n : Int}
end
end Go.Proofs.YtccffjlahpfdaaaDoor

namespace Go.Proofs.YtccffjlahpfdaaaDoor
open Go Go.Sh Go.Sp

/-! the document's set -/
noncomputable def E54i : TypeInfo := (Tryd.prog.info? 3).getD default
theorem E54 : ElemT Tryd.prog 30 3 1 8 (.int .i64 0) E54i := ⟨by kernel_rfl, by kernel_rfl, by kernel_rfl, by kernel_rfl, by kernel_rfl, rfl, by decide⟩
def atV (S : List Nat) : List Value := S.map fun (d : Nat) => Value.int .i64 (d : Int)
theorem atV_length (S : List Nat) : (atV S).length = S.length := by simp [atV]
theorem atV_at {S : List Nat} {j d : Nat} (h : S[j]? = some d) : (atV S)[j]? = some (.int .i64 (d : Int)) := by simp [atV, h]
theorem atV_snoc (S : List Nat) (d : Nat) : atV (S ++ [d]) = atV S ++ [.int .i64 (d : Int)] := by simp [atV]
/-- the document's set: its block, its row -/
structure RefR (w : World) (b : Nat) (a : Option Addr) (cum : Int) (S : List Nat) : Prop where
  blk : ∃ c, w.heap[b]? = some (.cells #[.int .u32 cum, .slice a S.length c] 32 (0, 0)) ∧ Own w (b + 1) 3 1 a S.length c (atV S)
  rising : S.Pairwise (· < ·)
  rng : ∀ d ∈ S, 2 ≤ d ∧ d ≤ 65535
  c0 : 0 ≤ cum
  c1 : cum < 4294967296
theorem RefR.fr {w w' : World} {b : Nat} {a : Option Addr} {cum : Int} {S : List Nat} {X : Nat → Prop} (h : RefR w b a cum S) (hf : Fr X w w') (hb : ¬ X b) (ha : ∀ k, inB a k → ¬ X k) : RefR w' b a cum S := by
  obtain ⟨c, h1, h2⟩ := h.blk
  exact ⟨⟨c, hf.blk h1 hb, h2.fr hf ha⟩, h.rising, h.rng, h.c0, h.c1⟩
theorem RefR.same {w w' : World} {b : Nat} {a : Option Addr} {cum : Int} {S : List Nat} (h : RefR w b a cum S) (hf : Same w w') : RefR w' b a cum S := h.fr hf (fun x => x) fun _ _ x => x
theorem RefR.len {w : World} {b : Nat} {a : Option Addr} {cum : Int} {S : List Nat} (h : RefR w b a cum S) : S.length ≤ 65534 := by
  have := rising_length h.rising (a := 2) (b := 65536) (fun d hd => by have := h.rng d hd; omega)
  omega
theorem RefR.blt {w : World} {b : Nat} {a : Option Addr} {cum : Int} {S : List Nat} (h : RefR w b a cum S) : b < w.heap.size := by obtain ⟨c, h1, _⟩ := h.blk; exact lt_of_blk h1
theorem RefR.alt {w : World} {b k : Nat} {a : Option Addr} {cum : Int} {S : List Nat} (h : RefR w b a cum S) (hk : inB a k) : b < k ∧ k < w.heap.size := by obtain ⟨c, _, h2⟩ := h.blk; exact h2.base_le hk
theorem r54 {cum : Int} (h0 : 0 ≤ cum) (h1 : cum < 4294967296) (w : World) : Calls Tryd.prog 54 #[.int .u32 cum] w (rt fun v w' => v = .pointer (some ⟨w.heap.size, 0, none⟩) ∧ RefR w' w.heap.size none cum [] ∧ Same w w') := by
  refine F54_ok ?_
  unfold F54 alc
  simp only [rdI_mk]
  exact ⟨trivial, ⟨⟨0, alloc_new _ _, Own.nil _ _ _ _⟩, by simp, by simp, h0, h1⟩, (Fr.refl w).alloc _⟩
section
variable {w : World} {b : Nat} {a : Option Addr} {cum : Int} {S : List Nat}
theorem r69_loop (h : RefR w b a cum S) {d : Int} {K0 : World → Prop} {Kr : Value → World → Prop} : ∀ (i j : Nat) (k : Nat), j + i = S.length → (∀ e ∈ S.take j, (e : Int) ≠ d) → i < k → ((∀ e ∈ S, (e : Int) ≠ d) → K0 w) → ((∃ e ∈ S, (e : Int) = d) → Kr (.bool true) w) →
    F69_1 K0 Kr k (.pointer (some ⟨b, 0, none⟩)) (.int .i64 d) (.int .i64 (j : Int)) w := by
  obtain ⟨c, h1, h2⟩ := h.blk
  have hlen := h.len
  intro i
  induction i with
  | zero =>
    intro j k hj hn hk k0 kr
    obtain ⟨k, rfl⟩ : ∃ j, k = j + 1 := ⟨k - 1, by omega⟩
    show F69_1B _ _ _ _ _ _ _
    unfold F69_1B
    simp only [rdP_mk, rdI_mk, nn_some, add_mk]
    refine ldC_at h1 rfl ?_
    simp only [br_dec]
    refine ⟨fun h => by exfalso; omega, fun _ => k0 ?_⟩
    rwa [List.take_of_length_le (by omega)] at hn
  | succ i ih =>
    intro j k hj hn hk k0 kr
    obtain ⟨k, rfl⟩ : ∃ j, k = j + 1 := ⟨k - 1, by omega⟩
    show F69_1B _ _ _ _ _ _ _
    unfold F69_1B
    simp only [rdP_mk, rdI_mk, nn_some, add_mk]
    refine ldC_at h1 rfl ?_
    simp only [br_dec]
    refine ⟨fun _ => ldC_at h1 rfl ?_, fun h => by exfalso; omega⟩
    obtain ⟨x, hx⟩ : ∃ x, S[j]? = some x := ⟨S[j]'(by omega), by simp⟩
    obtain ⟨ad, rfl⟩ := h2.rd.some (by rw [atV_length]; omega)
    refine ixS_of (by omega) (by omega) ?_
    simp only [Int.toNat_natCast, Nat.mul_one]
    refine ldI_c (h2.rd.at (atV_at hx)) ?_
    by_cases hxd : (x : Int) = d
    · have : ((x : Int) == d) = true := by simp [hxd]
      rw [this, br_true]
      exact kr ⟨x, List.mem_of_getElem? hx, hxd⟩
    · have : ((x : Int) == d) = false := by simp [hxd]
      rw [this, br_false]
      have e1 : IntKind.wrap .i64 ((j : Int) + 1) = ((j + 1 : Nat) : Int) := by rw [wrap_i64 (by omega) (by omega)]; omega
      rw [e1]
      refine ih (j + 1) k (by omega) (fun e he => ?_) (by omega) k0 kr
      rw [List.take_add_one, hx] at he
      simp only [List.mem_append, Option.toList_some, List.mem_singleton] at he
      rcases he with he | rfl
      · exact hn e he
      · exact hxd
theorem r69 (h : RefR w b a cum S) (d : Int) : Calls Tryd.prog 69 #[.pointer (some ⟨b, 0, none⟩), .int .i64 d] w (rt (KR (.bool (decide (∃ e ∈ S, (e : Int) = d))) w)) := by
  refine F69_ok ?_
  unfold F69
  simp only [rdP_mk, rdI_mk]
  refine ⟨S.length + 1, r69_loop h S.length 0 _ (by omega) (by simp) (by omega) (fun hn _g => ?_) fun hy _g => ?_⟩
  · rw [decide_eq_false (fun ⟨e, he, h⟩ => hn e he h)]; exact KR.mk _ _
  · simp only [rdB_mk]
    rw [decide_eq_true hy]; exact KR.mk _ _
theorem r48 (h : RefR w b a cum S) {t : Int} (h0 : 0 ≤ t) (h1 : t < 4294967296) : Calls Tryd.prog 48 #[.pointer (some ⟨b, 0, none⟩), .int .u32 t] w (rt (KR (.bool (hasS cum S t)) w)) := by
  obtain ⟨c, k1, k2⟩ := h.blk
  refine F48_ok ?_
  unfold F48
  simp only [rdP_mk, rdI_mk, nn_some, add_mk]
  refine ldI_at k1 rfl (clr (c18 _ _ _ h.c0 h.c1 h0 h1) ⟨_, rfl, ?_⟩)
  simp only [br_dec]
  refine ⟨fun hd => ?_, fun hd => clr (r69 h _) ⟨_, rfl, ?_⟩⟩
  · have : hasS cum S t = true := by simp [hasS, hd]
    rw [this]; exact KR.mk _ _
  · have : hasS cum S t = decide (∃ e ∈ S, (e : Int) = sd cum t) := by
      unfold hasS
      rw [decide_eq_false hd, Bool.false_or, decide_eq_decide]
      constructor
      · exact fun hm => ⟨_, hm, by omega⟩
      · rintro ⟨e, he, hs⟩
        rw [← hs]; simpa using he
    rw [this]; exact KR.mk _ _
theorem r26_loop {w0 : World} (h : RefR w0 b a cum S) {K0 : Value → World → Prop} : ∀ (i j : Nat) (w : World) (k : Nat) (a' : Option Addr) (l c' : Nat), j + i = S.length → Same w0 w → Own w w0.heap.size 22 1 a' l c' (numV cum (S.take j)) → i < k →
    (∀ w' a' c', Same w0 w' → Own w' w0.heap.size 22 1 a' S.length c' (numV cum S) → K0 (.slice a' S.length c') w') →
    F26_1 K0 k (.pointer (some ⟨b, 0, none⟩)) (.slice a' l c') (.int .i64 (j : Int)) w := by
  have hlen := h.len
  have hc0 := h.c0
  have hc1 := h.c1
  intro i
  induction i with
  | zero =>
    intro j w k a' l c' hj hf ho hk hK
    obtain ⟨k, rfl⟩ : ∃ j, k = j + 1 := ⟨k - 1, by omega⟩
    obtain ⟨c, k1, k2⟩ := (h.same hf).blk
    show F26_1B _ _ _ _ _ _
    unfold F26_1B
    simp only [rdP_mk, rdI_mk, rdC_mk, nn_some, add_mk]
    refine ldC_at k1 rfl ?_
    simp only [br_dec]
    refine ⟨fun h => by exfalso; omega, fun _ => ?_⟩
    rw [List.take_of_length_le (by omega)] at ho
    have : l = S.length := by have := ho.length; simp [numV] at this; omega
    subst this
    exact hK w a' c' hf ho
  | succ i ih =>
    intro j w k a' l c' hj hf ho hk hK
    obtain ⟨k, rfl⟩ : ∃ j, k = j + 1 := ⟨k - 1, by omega⟩
    obtain ⟨c, k1, k2⟩ := (h.same hf).blk
    show F26_1B _ _ _ _ _ _
    unfold F26_1B drw alc
    simp only [rdP_mk, rdI_mk, rdC_mk, nn_some, add_mk]
    refine ldC_at k1 rfl ?_
    simp only [br_dec]
    refine ⟨fun _ => ldI_at (w := w.drew) k1 rfl (ldC_at (w := w.drew) k1 rfl ?_), fun h => by exfalso; omega⟩
    have f0 : Same w w.drew := (Fr.refl w).drew
    have g0 : Same w0 w.drew := hf.drew
    obtain ⟨x, hx⟩ : ∃ x, S[j]? = some x := ⟨S[j]'(by omega), by simp⟩
    have hxr := h.rng x (List.mem_of_getElem? hx)
    have hr := Rd.same k2.rd f0
    obtain ⟨ad, rfl⟩ := hr.some (by rw [atV_length]; omega)
    refine ixS_of (by omega) (by omega) ?_
    simp only [Int.toNat_natCast, Nat.mul_one]
    refine ldI_c (hr.at (atV_at hx)) ?_
    rw [wrap_u32 (n := (x : Int)) (by omega) (by omega)]
    refine clr (c9 _ _ _ hc0 hc1 (by omega) (by omega)) ⟨_, rfl, ?_⟩
    have hl : l = j := by have := ho.length; simp [numV] at this; omega
    refine push E30 (ho.fr f0 fun _ _ x => x) (news := #[_]) rfl (by simp [Value.oneCell']) (by omega) (by omega) g0.size ?_
    intro a2 c2 w2 q1 q2 q3
    have e1 : IntKind.wrap .i64 ((j : Int) + 1) = ((j + 1 : Nat) : Int) := by rw [wrap_i64 (by omega) (by omega)]; omega
    rw [e1]
    refine ih (j + 1) w2 k a2 (l + 1) c2 (by omega) ?_ ?_ (by omega) hK
    · exact ((g0.mono (S' := fun k => w0.heap.size ≤ k) fun _ _ x => x.elim).trans q2 fun i _ x => (ho.base_le x).1).mono fun i hi x => by omega
    · rw [List.take_add_one, hx]
      simp only [Option.toList_some]
      rw [numV_snoc]
      exact q1
theorem r26 (h : RefR w b a cum S) : Calls Tryd.prog 26 #[.pointer (some ⟨b, 0, none⟩)] w (rt fun v w' => ∃ a c, v = .slice a S.length c ∧ Own w' w.heap.size 22 1 a S.length c (numV cum S) ∧ Same w w') := by
  refine F26_ok ?_
  unfold F26
  simp only [rdP_mk]
  refine ⟨S.length + 1, r26_loop h S.length 0 w _ none 0 0 (by omega) (Fr.refl w) (by simpa [numV] using Own.nil _ _ _ _) (by omega) fun w' a' c' hf ho _g => ?_⟩
  simp only [rdC_mk]
  exact ⟨a', c', rfl, ho, hf⟩
end
end Go.Proofs.YtccffjlahpfdaaaDoor

namespace Go.Proofs.YtccffjlahpfdaaaDoor
open Go Go.Sh Go.Sp

/-! the document's From, and the law SpansFrom -/
theorem c15b : True := trivial
/-- how many blocks begin at k, less those that ended ahead of it -/
def ed : List (Nat × Nat) → Nat → Int
  | [], _ => 0
  | p :: G, k => ed G k + ((if p.1 = k then 1 else 0) - (if p.2 + 1 = k then 1 else 0))
def opn : List (Nat × Nat) → Nat → Int
  | [], _ => 0
  | p :: G, k => opn G k + (if p.1 ≤ k ∧ k ≤ p.2 then 1 else 0)
theorem ed_snoc (G : List (Nat × Nat)) (p : Nat × Nat) (k : Nat) : ed (G ++ [p]) k = ed G k + ((if p.1 = k then 1 else 0) - (if p.2 + 1 = k then 1 else 0)) := by
  induction G with
  | nil => simp [ed]
  | cons q G ih => simp only [List.cons_append, ed, ih]; omega
theorem ed_bound (G : List (Nat × Nat)) (k : Nat) : -(G.length : Int) ≤ ed G k ∧ ed G k ≤ G.length := by
  induction G with
  | nil => simp [ed]
  | cons p G ih =>
    simp only [ed, List.length_cons]
    split <;> split <;> omega
theorem opn_bound (G : List (Nat × Nat)) (k : Nat) : 0 ≤ opn G k ∧ opn G k ≤ G.length := by
  induction G with
  | nil => simp [opn]
  | cons p G ih =>
    simp only [opn, List.length_cons]
    split <;> omega
theorem opn_step (G : List (Nat × Nat)) (h : ∀ p ∈ G, p.1 ≤ p.2) (k : Nat) : opn G (k + 1) = opn G k + ed G (k + 1) := by
  induction G with
  | nil => simp [opn, ed]
  | cons p G ih =>
    have ih' := ih fun q hq => h q (by simp [hq])
    have hp := h p (by simp)
    simp only [opn, ed, ih']
    by_cases a1 : p.1 ≤ k + 1 ∧ k + 1 ≤ p.2
    · rw [if_pos a1]
      by_cases a2 : p.1 ≤ k ∧ k ≤ p.2
      · rw [if_pos a2, if_neg (by omega), if_neg (by omega)]; omega
      · rw [if_neg a2, if_pos (by omega), if_neg (by omega)]; omega
    · rw [if_neg a1]
      by_cases a2 : p.1 ≤ k ∧ k ≤ p.2
      · rw [if_pos a2, if_neg (by omega), if_pos (by omega)]; omega
      · rw [if_neg a2, if_neg (by omega), if_neg (by omega)]; omega
theorem opn_one (G : List (Nat × Nat)) (h : ∀ p ∈ G, 2 ≤ p.1) : opn G 1 = 0 := by
  induction G with
  | nil => rfl
  | cons p G ih =>
    have hp := h p (by simp)
    simp only [opn, ih fun q hq => h q (by simp [hq])]
    rw [if_neg (by omega)]; omega
theorem opn_pos (G : List (Nat × Nat)) (k : Nat) : opn G k > 0 ↔ inG G k := by
  induction G with
  | nil => simp [opn, inG]
  | cons p G ih =>
    have hb := opn_bound G k
    simp only [opn]
    constructor
    · intro h
      by_cases a1 : p.1 ≤ k ∧ k ≤ p.2
      · exact ⟨p, by simp, a1⟩
      · rw [if_neg a1] at h
        obtain ⟨q, hq, hk⟩ := ih.1 (by omega)
        exact ⟨q, by simp [hq], hk⟩
    · rintro ⟨q, hq, hk⟩
      rcases List.mem_cons.1 hq with rfl | hq
      · rw [if_pos hk]; omega
      · have := ih.2 ⟨q, hq, hk⟩
        split <;> omega
def rowV (f : Nat → Int) : List Value := (List.range 65537).map fun k => Value.int .i64 (f k)
theorem rowV_at {f : Nat → Int} {k : Nat} (h : k < 65537) : (rowV f)[k]? = some (.int .i64 (f k)) := by simp [rowV, h]
theorem rowV_length (f : Nat → Int) : (rowV f).length = 65537 := by simp [rowV]
theorem rowV_set (f : Nat → Int) (j : Nat) (v : Int) : (rowV f).set j (.int .i64 v) = rowV fun k => if k = j then v else f k := by
  apply List.ext_getElem?
  intro i
  rcases Nat.lt_or_ge i 65537 with hi | hi
  · rw [rowV_at hi, List.getElem?_set]
    by_cases hij : j = i
    · subst hij; simp [rowV_length, hi]
    · rw [if_neg hij, rowV_at hi, if_neg (Ne.symm hij)]
  · rw [List.getElem?_eq_none (by rw [List.length_set, rowV_length]; exact hi), List.getElem?_eq_none (by rw [rowV_length]; exact hi)]
section
variable {n : Int} {G : List (Nat × Nat)} {a ea : Option Addr} {cc : Nat} {b : Nat} {cum : Int}
theorem r23_chk {w0 : World} {K0 : Value → Value → World → Prop} {Kr : Value → Value → World → Prop} (hr : Rd w0 a (gapV G)) (hl : G.length ≤ 4096) (hG : ∀ p ∈ G, p.1 ≤ 65535 ∧ p.2 ≤ 65535) : ∀ (i j : Nat) (w : World) (k : Nat),
    j + i = G.length → Same w0 w → Own w w0.heap.size 3 1 ea 65537 65537 (rowV (ed (G.take j))) → (∀ p ∈ G.take j, ¬ badG p) → i < k →
    ((∀ p ∈ G, ¬ badG p) → ∀ w', Same w0 w' → Own w' w0.heap.size 3 1 ea 65537 65537 (rowV (ed G)) → K0 (.int .u32 n) (.slice ea 65537 65537) w') → ((∃ p ∈ G, badG p) → ∀ w', Same w0 w' → Kr (.pointer none) (.int .i64 30) w') →
    F23_3 K0 Kr k (.int .u32 n) (.slice a G.length cc) (.slice ea 65537 65537) (.int .i64 (j : Int)) w := by
  intro i
  induction i with
  | zero =>
    intro j w k hj hf ho hgood hk h0 hr'
    obtain ⟨k, rfl⟩ : ∃ j, k = j + 1 := ⟨k - 1, by omega⟩
    show F23_3B _ _ _ _ _ _ _ _
    unfold F23_3B
    simp only [rdI_mk, rdC_mk, br_dec]
    rw [List.take_of_length_le (by omega)] at ho hgood
    exact ⟨fun h => by exfalso; omega, fun _ => h0 hgood w hf ho⟩
  | succ i ih =>
    intro j w k hj hf ho hgood hk h0 hbad
    obtain ⟨k, rfl⟩ : ∃ j, k = j + 1 := ⟨k - 1, by omega⟩
    show F23_3B _ _ _ _ _ _ _ _
    unfold F23_3B drw
    simp only [rdI_mk, rdC_mk, br_dec]
    refine ⟨fun _ => ?_, fun h => by exfalso; omega⟩
    obtain ⟨p, hp⟩ : ∃ x, G[j]? = some x := ⟨G[j]'(by omega), by simp⟩
    have hpm := List.mem_of_getElem? hp
    obtain ⟨p1, p2⟩ := hG p hpm
    obtain ⟨g1, g1'⟩ := gapV_at hp
    have f0 : Same w w.drew := (Fr.refl w).drew
    have hf1 : Same w0 w.drew := hf.drew
    have hr' := Rd.same hr hf1
    obtain ⟨ad, rfl⟩ := hr'.some (by rw [gapV_length]; omega)
    refine ixS_of (by omega) (by omega) ?_
    simp only [Int.toNat_natCast, add_add, Nat.add_zero]
    refine ldI_c (hr'.at g1) ⟨fun h => hbad ⟨p, hpm, .inl (by omega)⟩ _ hf1, fun h => ixS_of (by omega) (by omega) ?_⟩
    simp only [Int.toNat_natCast, add_add, Nat.add_zero]
    refine ldI_c (hr'.at g1') (ixS_of (by omega) (by omega) ?_)
    simp only [Int.toNat_natCast, add_add, Nat.add_zero]
    refine ldI_c (hr'.at g1) ⟨fun h' => hbad ⟨p, hpm, .inr (by omega)⟩ _ hf1, fun h' => ?_⟩
    unfold F23_1 drw
    simp only [rdI_mk, rdC_mk]
    have f2 : Same w w.drew.drew := f0.drew
    have hf2 : Same w0 w.drew.drew := hf1.drew
    have hr2 := Rd.same hr hf2
    have ho2 := ho.fr f2 fun _ _ x => x
    obtain ⟨eb, rfl⟩ := ho2.rd.some (by rw [rowV_length]; omega)
    refine ixS_of (by omega) (by omega) ?_
    simp only [Int.toNat_natCast, add_add, Nat.add_zero]
    refine ldI_c (hr2.at g1) (ixS_of (by omega) (by omega) ?_)
    simp only [Int.toNat_natCast, add_add, Nat.add_zero]
    refine ldI_c (hr2.at g1') ?_
    rw [wrap_i64 (n := (p.1 : Int)) (by omega) (by omega), wrap_i64 (n := (p.2 : Int)) (by omega) (by omega)]
    refine ixS_of (by omega) (by omega) ?_
    simp only [Int.toNat_natCast, Nat.mul_one]
    refine ldI_c (ho2.rd.at (rowV_at (by omega))) (ixS_of (by omega) (by omega) ?_)
    simp only [Int.toNat_natCast, Nat.mul_one]
    refine ho2.put (by rw [rowV_length]; omega) fun w3 o3 f3 => ?_
    rw [rowV_set] at o3
    have e2 : IntKind.wrap .i64 ((p.2 : Int) + 1) = ((p.2 + 1 : Nat) : Int) := by rw [wrap_i64 (by omega) (by omega)]; omega
    rw [e2]
    refine ixS_of (by omega) (by omega) ?_
    simp only [Int.toNat_natCast, Nat.mul_one]
    refine ldI_c (o3.rd.at (rowV_at (by omega))) (ixS_of (by omega) (by omega) ?_)
    simp only [Int.toNat_natCast, Nat.mul_one]
    refine o3.put (by rw [rowV_length]; omega) fun w4 o4 f4 _g => ?_
    rw [rowV_set] at o4
    have e1 : IntKind.wrap .i64 ((j : Int) + 1) = ((j + 1 : Nat) : Int) := by rw [wrap_i64 (by omega) (by omega)]; omega
    rw [e1]
    have hb : ∀ k, inB (some eb) k → w0.heap.size ≤ k := fun k x => (ho2.base_le x).1
    have hf4 : Same w0 w4 := (((hf2.mono (S' := fun k => w0.heap.size ≤ k) fun _ _ x => x.elim).trans f3 fun i _ x => hb i x).trans f4 fun i _ x => hb i x).mono fun i hi x => by omega
    have htake : G.take (j + 1) = G.take j ++ [p] := by rw [List.take_add_one, hp]; rfl
    refine ih (j + 1) w4 k (by omega) hf4 ?_ (fun q hq => ?_) (by omega) h0 hbad
    · have hlen : (G.take j).length ≤ 4096 := by rw [List.length_take]; omega
      have hbd := fun k => ed_bound (G.take j) k
      rw [htake]
      have : (fun k => if k = p.2 + 1 then IntKind.wrap .i64 ((if p.2 + 1 = p.1 then IntKind.wrap .i64 (ed (G.take j) p.1 + 1) else ed (G.take j) (p.2 + 1)) - 1) else if k = p.1 then IntKind.wrap .i64 (ed (G.take j) p.1 + 1) else ed (G.take j) k) = ed (G.take j ++ [p]) := by
        funext k
        rw [ed_snoc]
        have b1 := hbd p.1
        have b2 := hbd (p.2 + 1)
        rw [wrap_i64 (n := ed (G.take j) p.1 + 1) (by omega) (by omega), if_neg (show ¬ p.2 + 1 = p.1 by omega), wrap_i64 (n := ed (G.take j) (p.2 + 1) - 1) (by omega) (by omega)]
        by_cases k1 : k = p.2 + 1
        · subst k1; rw [if_pos rfl, if_neg (by omega), if_pos rfl]; omega
        · rw [if_neg k1]
          by_cases k2 : k = p.1
          · subst k2; rw [if_pos rfl, if_pos rfl, if_neg (by omega)]; omega
          · rw [if_neg k2, if_neg (by omega), if_neg (by omega)]; omega
      rw [this] at o4
      exact o4
    · rw [htake] at hq
      simp only [List.mem_append, List.mem_singleton] at hq
      rcases hq with hq | rfl
      · exact hgood q hq
      · unfold badG; omega
/-- the set as it grows -/
theorem r23_out {w0 : World} {K2 : Value → World → Prop} (hl : G.length ≤ 4096) (hG : ∀ p ∈ G, 2 ≤ p.1 ∧ p.1 ≤ p.2) (he : Own w0 0 3 1 ea 65537 65537 (rowV (ed G))) (hne : ¬ inB ea b) : ∀ (i j : Nat) (w : World) (k : Nat) (sa : Option Addr) (S : List Nat) (z : Int), z = opn G (j - 1) →
    j + i = 65536 → 2 ≤ j → Fr (fun k => k = b ∨ w0.heap.size ≤ k) w0 w → RefR w b sa cum S → (∀ k, inB sa k → w0.heap.size ≤ k) → (∀ x, x ∈ S ↔ x < j ∧ inG G x) → i < k →
    (∀ w' sa' S', Fr (fun k => k = b ∨ w0.heap.size ≤ k) w0 w' → RefR w' b sa' cum S' → (∀ k, inB sa' k → w0.heap.size ≤ k) → (∀ x, x ∈ S' ↔ x < 65536 ∧ inG G x) → K2 (.pointer (some ⟨b, 0, none⟩)) w') →
    F23_2 K2 k (.slice ea 65537 65537) (.pointer (some ⟨b, 0, none⟩)) (.int .i64 z) (.int .i64 (j : Int)) w := by
  intro i
  induction i with
  | zero =>
    intro j w k sa S z hz hj h2 hf hR hsa hS hk hK
    subst hz
    obtain ⟨k, rfl⟩ : ∃ j, k = j + 1 := ⟨k - 1, by omega⟩
    show F23_2B _ _ _ _ _ _ _
    unfold F23_2B
    simp only [rdI_mk, rdC_mk, rdP_mk, br_dec]
    have : j = 65536 := by omega
    subst this
    exact ⟨fun h => by exfalso; omega, fun _ => hK w sa S hf hR hsa hS⟩
  | succ i ih =>
    intro j w k sa S z hz hj h2 hf hR hsa hS hk hK
    subst hz
    obtain ⟨k, rfl⟩ : ∃ j, k = j + 1 := ⟨k - 1, by omega⟩
    show F23_2B _ _ _ _ _ _ _
    unfold F23_2B alc
    simp only [rdI_mk, rdC_mk, rdP_mk, br_dec]
    refine ⟨fun _ => ?_, fun h => by exfalso; omega⟩
    have hew := he.fr hf fun k hk x => by
      rcases x with rfl | x
      · exact hne hk
      · have := (he.base_le hk).2; omega
    obtain ⟨eb, rfl⟩ := hew.rd.some (by rw [rowV_length]; omega)
    refine ixS_of (by omega) (by omega) ?_
    simp only [Int.toNat_natCast, Nat.mul_one]
    refine ldI_c (hew.rd.at (rowV_at (by omega))) ?_
    have hst := opn_step G (fun p hp => (hG p hp).2) (j - 1)
    rw [show j - 1 + 1 = j by omega] at hst
    have hb1 := opn_bound G j
    have e0 : IntKind.wrap .i64 (opn G (j - 1) + ed G j) = opn G j := by rw [← hst, wrap_i64 (by omega) (by omega)]
    have e1 : IntKind.wrap .i64 ((j : Int) + 1) = ((j + 1 : Nat) : Int) := by rw [wrap_i64 (by omega) (by omega)]; omega
    rw [e0, e1]
    have e2 : opn G j = opn G (j + 1 - 1) := by rw [Nat.add_sub_cancel]
    refine ⟨fun hpos => ?_, fun hpos => ?_⟩
    · obtain ⟨c, k1, k2⟩ := hR.blk
      simp only [nn_some, add_mk]
      refine ldC_at k1 rfl ?_
      have hlen := hR.len
      have hbl := hR.blt
      refine push E54 k2 (news := #[_]) rfl (by simp [Value.oneCell']) (by omega) (by omega) (by omega) ?_
      intro a2 c2 w2 q1 q2 q3
      have nb : ∀ x, inB sa x → b < x := fun x hx => (hR.alt hx).1
      have b2 := q2.blk k1 fun x => by have := nb b x; omega
      refine stc_at b2 (by simp) ?_
      generalize hw3 : sb w2 b _ = w3
      have f3 : Fr (fun k => k = b ∨ w0.heap.size ≤ k) w w3 := by
        rw [← hw3]
        exact (q2.mono (S' := fun k => k = b ∨ w0.heap.size ≤ k) fun x _ hx => .inr (hsa x hx)).sb fun _ => .inl rfl
      have b3 : w3.heap[b]? = some (.cells #[.int .u32 cum, .slice a2 (S.length + 1) c2] 32 (0, 0)) := by rw [← hw3]; exact sb_same b2
      have o3 : Own w3 (b + 1) 3 1 a2 (S.length + 1) c2 (atV S ++ [.int .i64 (j : Int)]) := by
        rw [← hw3]
        refine q1.fr ((Fr.refl w2).sb (S := (· = b)) fun _ => rfl) fun x hx e => ?_
        have := (q1.base_le hx).1
        omega
      clear hw3
      rw [e2]
      refine ih (j + 1) w3 k a2 (S ++ [j]) _ rfl (by omega) (by omega) (hf.trans f3 fun x _ hx => hx) ⟨⟨c2, by simpa using b3, by rw [atV_snoc]; simpa using o3⟩, ?_, fun d hd => ?_, hR.c0, hR.c1⟩ (fun x hx => ?_) (fun x => ?_) (by omega) hK
      · rw [List.pairwise_append]
        refine ⟨hR.rising, by simp, fun x hx y hy => ?_⟩
        simp at hy; subst hy
        exact ((hS x).1 hx).1
      · rcases List.mem_append.1 hd with hd | hd
        · exact hR.rng d hd
        · simp at hd; omega
      · rcases q3 x hx with h | h
        · exact hsa x h
        · have := hf.size; omega
      · rw [List.mem_append, hS x, List.mem_singleton]
        constructor
        · rintro (⟨h1, h2⟩ | rfl)
          · exact ⟨by omega, h2⟩
          · exact ⟨by omega, (opn_pos G _).1 hpos⟩
        · rintro ⟨h1, h2⟩
          by_cases hx : x = j
          · exact .inr hx
          · exact .inl ⟨by omega, h2⟩
    · rw [e2]
      refine ih (j + 1) w k sa S _ rfl (by omega) (by omega) hf hR hsa (fun x => ?_) (by omega) hK
      rw [hS x]
      constructor
      · rintro ⟨h1, h2⟩; exact ⟨by omega, h2⟩
      · rintro ⟨h1, hg⟩
        by_cases hx : x = j
        · exact absurd ((opn_pos G j).2 (hx ▸ hg)) hpos
        · exact ⟨by omega, hg⟩
end
end Go.Proofs.YtccffjlahpfdaaaDoor

namespace Go.Proofs.YtccffjlahpfdaaaDoor
open Go Go.Sh Go.Sp
section
variable {n : Int} {G : List (Nat × Nat)} {a : Option Addr} {cc : Nat}
theorem made0 : (madeCells (Value.int .i64 0).cells (65537 * 1)).toList = rowV (ed []) := by
  simp [madeCells, rowV, ed, Value.cells, Nat.mod_one]
def RefFrom (w w' : World) (n : Int) (G : List (Nat × Nat)) (v : Value) : Prop :=
  (4096 < G.length ∧ v = .tuple #[.pointer none, .int .i64 3] ∧ Same w w') ∨
  (G.length ≤ 4096 ∧ (∃ p ∈ G, badG p) ∧ v = .tuple #[.pointer none, .int .i64 30] ∧ Same w w') ∨
  (G.length ≤ 4096 ∧ (∀ p ∈ G, ¬ badG p) ∧ ∃ b a S, v = .tuple #[.pointer (some ⟨b, 0, none⟩), .int .i64 0] ∧ RefR w' b a n S ∧ (∀ x, x ∈ S ↔ x < 65536 ∧ inG G x) ∧ Same w w')
theorem r23 {w : World} (hn0 : 0 ≤ n) (hn1 : n < 4294967296) (hr : Rd w a (gapV G)) (hG : ∀ p ∈ G, p.1 ≤ 65535 ∧ p.2 ≤ 65535) :
    Calls Tryd.prog 23 #[.int .u32 n, .slice a G.length cc] w (rt fun v w' => RefFrom w w' n G v) := by
  refine F23_ok ?_
  unfold F23
  simp only [rdI_mk, rdC_mk, br_dec]
  refine ⟨fun h => .inl ⟨by omega, rfl, Fr.refl w⟩, fun h => ?_⟩
  refine make_own (base := w.heap.size) E54 (n := 65537) (by decide) (by decide) (by decide) (Nat.le_refl _) fun w1 o1 f1 => ?_
  rw [made0] at o1
  refine ⟨G.length + 1, r23_chk (w0 := w) hr (by omega) hG G.length 0 w1 _ (by omega) f1 o1 (by simp) (by omega) (fun hgood w2 f2 o2 _g => ?_) fun hbad w2 f2 _g => ?_⟩
  · simp only [rdI_mk, rdC_mk]
    refine cl (r54 hn0 hn1 w2) ?_
    rintro _ w3 ⟨rfl, R3, f3⟩
    refine ⟨_, rfl, 65535, ?_⟩
    have hg : ∀ p ∈ G, 2 ≤ p.1 ∧ p.1 ≤ p.2 := fun p hp => by have := hgood p hp; unfold badG at this; omega
    have o3 := (o2.fr f3 fun _ _ x => x).mono (base' := 0) (Nat.zero_le _)
    have hz : opn G 1 = 0 := opn_one G fun p hp => (hg p hp).1
    refine r23_out (w0 := w3) (by omega) hg o3 (fun x => ?_) 65534 2 w3 _ none [] 0 hz.symm rfl (Nat.le_refl _) (Fr.refl _) R3 (fun k ⟨_, e, _⟩ => by cases e) (fun x => ?_) (by omega) fun w4 sa S f4 R4 hsa hS _g => ?_
    · have := (o2.base_le x).2; omega
    · simp only [List.not_mem_nil, false_iff, not_and]
      rintro hx ⟨p, hp, h1, _⟩
      have := hg p hp; omega
    · simp only [rdP_mk]
      refine .inr (.inr ⟨by omega, hgood, _, sa, S, rfl, R4, hS, ?_⟩)
      have g3 : Same w w3 := f2.trans f3 fun _ _ x => x
      have := f2.size
      exact ((g3.mono (S' := fun k => w.heap.size ≤ k) fun _ _ x => x.elim).trans f4 fun i hi x => by have := g3.size; omega).mono fun i hi x => by omega
  · simp only [rdP_mk, rdI_mk]
    exact .inr (.inl ⟨by omega, hbad, rfl, f2⟩)
end
end Go.Proofs.YtccffjlahpfdaaaDoor
