/- Own text: part of the shallow reading of the code and of the contracts that are proved over it. -/
import Derived.Test.YtnmgdeimngcbgaaNtB
namespace Go.Proofs.Ytnmgdeimngcbgaa
open Go Go.Sh

theorem Pres.of_same {w w' : World} (h : Same w w') : Pres w w' :=
  ⟨h.size, fun a v hv => by rw [← hv]; exact World.cell?_of_block (h.block _ (World.block_lt_of_cell? w a hv) fun x => x), fun r es c hr => h.blk hr fun x => x⟩
/-! the plain law of a network: what an operation does, with no address in sight -/
structure PK where
  id : Int
  now : Int
  forged : Bool
  bytes : List Int
structure LN where
  sent : Int
  del : Int
  lost : Int
  forged : Int
  ps : List PK
structure NT where
  lanes : List LN
  down : List Bool
  next : Int
def Pk.abs (p : Pk) : PK := ⟨p.id, p.now, p.forged, p.bytes⟩
def La.abs (d : La) : LN := ⟨d.sent, d.del, d.lost, d.forged, d.ps.map Pk.abs⟩
def Nt.abs (n : Nt) : NT := ⟨n.lanes.map La.abs, n.down, n.next⟩
def inc (x : Int) : Int := IntKind.wrap .i64 (x + 1)
def LN.count (l : LN) (forged : Bool) : LN := if forged then { l with forged := inc l.forged } else { l with sent := inc l.sent }
def LN.put (l : LN) (p : PK) (up : Bool) : LN := if up then { l with ps := l.ps ++ [p] } else { l with lost := inc l.lost }
section
variable {w : World} {base : Nat} {d : La} {pk : Pk}
/-- the blocks of a lane, apart -/
theorem foot_apart (h : d.foot.Nodup) : (¬ inB d.a d.b) ∧ (∀ p ∈ d.ps, ¬ inB p.a d.b) ∧ ∀ p ∈ d.ps, ∀ k, inB p.a k → ¬ inB d.a k := by
  unfold La.foot at h
  rw [List.nodup_cons, List.nodup_append] at h
  obtain ⟨h1, h2, h3, h4⟩ := h
  simp only [List.mem_append, List.mem_flatMap, mem_blk, not_or] at h1
  refine ⟨h1.1, fun p hp x => h1.2 ⟨p, hp, x⟩, fun p hp k hk x => h4 k (mem_blk.2 x) k (List.mem_flatMap.2 ⟨p, hp, mem_blk.2 hk⟩) rfl⟩
theorem c45_up (h : LaR w base d) (hnd : d.foot.Nodup) (hpk : Own w base 5 1 pk.a pk.bytes.length pk.c (byV pk.bytes)) (hs : pk.bytes.length ≤ 65536) (hm : d.ps.length < 4096) (hne : ∀ k, inB pk.a k → k ∉ d.foot) (hbase : base ≤ w.heap.size) :
    Calls Try.prog 45 #[.pointer (some ⟨d.b, 0, none⟩), .agg #[.int .i64 pk.id, .int .i64 pk.now, .int .i64 (pk.bytes.length : Int), .bool pk.forged, .slice pk.a pk.bytes.length pk.c], .bool true] w
      (rt fun v w' => v = .tuple #[] ∧ ∃ a' c', LaR w' base { d with a := a', c := c', ps := d.ps ++ [pk] } ∧ Fr (fun x => x = d.b ∨ inB d.a x) w w' ∧ ∀ x, inB a' x → inB d.a x ∨ w.heap.size ≤ x) := by
  obtain ⟨n1, n2, n3⟩ := foot_apart hnd
  have hdb : d.b < w.heap.size := lt_of_blk h.cell
  refine F45_ok ?_
  unfold F45 alc drw
  simp only [rdP_mk]
  refine ⟨_, _, _, _, _, _, _, rfl, ?_⟩
  simp only [rdB_mk, br_true, nn_some, add_mk]
  obtain ⟨w1, hw1⟩ : ∃ w1, w1 = (w.alloc (.cells #[.int .i64 pk.id, .int .i64 pk.now, .int .i64 (pk.bytes.length : Int), .bool pk.forged, .slice pk.a pk.bytes.length pk.c] 83)).drew := ⟨_, rfl⟩
  have q1 : w1.heap[w.heap.size]? = some (.cells #[.int .i64 pk.id, .int .i64 pk.now, .int .i64 (pk.bytes.length : Int), .bool pk.forged, .slice pk.a pk.bytes.length pk.c] 83 (0, 0)) := by rw [hw1]; exact alloc_new _ _
  have f1 : Same w w1 := by rw [hw1]; exact ((Fr.refl w).alloc _).drew
  rw [← hw1]
  clear hw1
  have d1 := f1.blk h.cell fun x => x
  refine ldC_at d1 rfl (ldI_at q1 rfl (ldI_at q1 rfl (ldI_at q1 rfl (ldB_at q1 rfl (ldC_at q1 rfl ⟨Pres.alloc _ _, ?_⟩)))))
  have o1 := h.row.fr f1 fun _ _ x => x
  refine push E67 o1 (news := #[_, _, _, _, _]) rfl (by simp [Value.oneCell']) (by omega) (by omega) (Nat.le_trans hbase f1.size) ?_
  intro a' c' w2 k1 k2 k3
  have d2 := k2.blk d1 n1
  refine stc_at d2 (by simp) ⟨trivial, a', c', ?_⟩
  generalize hw3 : sb w2 d.b _ = w3
  have f2 : Fr (fun x => x = d.b ∨ inB d.a x) w w3 := by
    rw [← hw3]
    exact ((f1.mono (S' := fun x => x = d.b ∨ inB d.a x) fun _ _ x => x.elim).trans k2 fun i _ x => .inr x).sb fun _ => .inl rfl
  have d3 : w3.heap[d.b]? = some (.cells #[.int .i64 d.sent, .int .i64 d.del, .int .i64 d.lost, .int .i64 d.forged, .slice a' (d.ps.length + 1) c'] 69 (0, 0)) := by rw [← hw3]; exact sb_same d2
  have ha' : ∀ x, inB a' x → inB d.a x ∨ w.heap.size ≤ x := fun x hx => by
    rcases k3 x hx with h | h
    · exact .inl h
    · exact .inr (by have := f1.size; omega)
  have o3 : Own w3 base 83 5 a' (d.ps.length + 1) c' (pksV (d.ps ++ [pk])) := by
    rw [← hw3, pksV_append]
    refine Own.fr k1 ((Fr.refl w2).sb (S := (· = d.b)) fun _ => rfl) fun x hx e => ?_
    rcases ha' x hx with h | h
    · rw [e] at h; exact n1 h
    · omega
  clear hw3
  refine ⟨⟨by simpa using d3, by simpa using o3, fun p hp => ?_, h.low, fun p hp => ?_, by simp; omega⟩, f2, ha'⟩
  · rcases List.mem_append.1 hp with hp | hp
    · exact (h.bytes p hp).fr f2 fun k hk x => by
        rcases x with rfl | x
        · exact n2 p hp hk
        · exact n3 p hp k hk x
    · simp at hp; subst hp
      exact hpk.fr f2 fun k hk x => hne k hk (by
        unfold La.foot
        rcases x with rfl | x
        · simp
        · simp [mem_blk.2 x])
  · rcases List.mem_append.1 hp with hp | hp
    · exact h.short p hp
    · simp at hp; subst hp; exact hs
theorem c45_down (h : LaR w base d) (hnd : d.foot.Nodup) {n2 n3 n4 : Int} {b5 : Bool} {a6 : Option Addr} {l6 c6 : Nat} :
    Calls Try.prog 45 #[.pointer (some ⟨d.b, 0, none⟩), .agg #[.int .i64 n2, .int .i64 n3, .int .i64 n4, .bool b5, .slice a6 l6 c6], .bool false] w
      (rt fun v w' => v = .tuple #[] ∧ LaR w' base { d with lost := inc d.lost } ∧ Fr (fun x => x = d.b) w w') := by
  obtain ⟨n1, n2, n3⟩ := foot_apart hnd
  have hdb : d.b < w.heap.size := lt_of_blk h.cell
  refine F45_ok ?_
  unfold F45 alc drw
  simp only [rdP_mk]
  refine ⟨_, _, _, _, _, _, _, rfl, ?_⟩
  simp only [rdB_mk, br_false, nn_some, add_mk]
  generalize hw1 : w.alloc _ = w1
  have f1 : Same w w1 := by rw [← hw1]; exact (Fr.refl w).alloc _
  clear hw1
  have d1 := f1.blk h.cell fun x => x
  refine ldI_at d1 rfl (stc_at d1 (by simp) ⟨trivial, ?_⟩)
  generalize hw3 : sb w1 d.b _ = w3
  have f2 : Fr (fun x => x = d.b) w w3 := by rw [← hw3]; exact (f1.mono (S' := fun x => x = d.b) fun _ _ x => x.elim).sb fun _ => rfl
  have d3 : w3.heap[d.b]? = some (.cells #[.int .i64 d.sent, .int .i64 d.del, .int .i64 (inc d.lost), .int .i64 d.forged, .slice d.a d.ps.length d.c] 69 (0, 0)) := by rw [← hw3]; exact sb_same d1
  clear hw3
  exact ⟨⟨d3, h.row.fr f2 fun k hk x => n1 (x ▸ hk), fun p hp => (h.bytes p hp).fr f2 fun k hk x => n2 p hp (x ▸ hk), h.low, h.short, h.many⟩, f2⟩
end
end Go.Proofs.Ytnmgdeimngcbgaa
