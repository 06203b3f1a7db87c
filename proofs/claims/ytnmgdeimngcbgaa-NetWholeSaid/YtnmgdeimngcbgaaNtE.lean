/- Own text: part of the shallow reading of the code and of the contracts that are proved over it. -/
import Derived.Test.YtnmgdeimngcbgaaNtD
namespace Go.Proofs.Ytnmgdeimngcbgaa
open Go Go.Sh

def idx (e p : Int) : Nat := (p * 2 + e).toNat
def NT.has (n : NT) (e p : Int) : Prop := 0 ≤ e ∧ e ≤ 1 ∧ 0 ≤ p ∧ p < (n.down.length : Int)
instance (n : NT) (e p : Int) : Decidable (n.has e p) := by unfold NT.has; infer_instance
def NT.many (n : NT) (e p : Int) : Nat := ((n.lanes[idx e p]?).map (·.ps.length)).getD 0
def NT.code (n : NT) (e p now : Int) (len : Nat) : Int :=
  if n.has e p then (if now < 0 ∨ now > 1099511627776 then 1 else if len > 65536 then 2 else if 4096 ≤ n.many e p then 3 else 0) else 90
def NT.isDown (n : NT) (p : Int) : Bool := (n.down[p.toNat]?).getD false
def NT.upd (n : NT) (k : Nat) (f : LN → LN) : NT := match n.lanes[k]? with | some l => { n with lanes := n.lanes.set k (f l) } | none => n
def NT.enter (n : NT) (e p now : Int) (forged : Bool) (bs : List Int) : NT :=
  { n.upd (idx e p) (fun l => (l.count forged).put ⟨n.next, now, forged, bs⟩ (!n.isDown p)) with next := inc n.next }
section
variable {w : World} {base : Nat} {n : Nt} {k : Nat} {d : La}
theorem down_at (h : NtR w base n) {p : Int} (h0 : 0 ≤ p) (h1 : p < (n.down.length : Int)) : ∃ ad b, n.da = some ad ∧ n.down[p.toNat]? = some b ∧ w.cell? (ad.add (p.toNat * 1)) = some (.bool b) := by
  obtain ⟨b, hb⟩ : ∃ b, n.down[p.toNat]? = some b := ⟨n.down[p.toNat]'(by omega), by simp⟩
  have hl := List.getElem?_eq_some_iff.1 hb
  obtain ⟨ad, ha⟩ := h.drow.rd.some (by simp; omega)
  have hr := h.drow.rd
  rw [ha] at hr
  exact ⟨ad, b, ha, hb, by rw [Nat.mul_one]; exact hr.at (by simp [hb])⟩
theorem c24_fin (h : NtR w base n) (hk : n.lanes[k]? = some d) {p : Int} (h0 : 0 ≤ p) (h1 : p < (n.down.length : Int)) {a : Option Addr} {bs : List Int} {c : Nat} (hr : Rd w a (byV bs)) (hl : bs.length ≤ 65536) (hm : d.ps.length < 4096) (hbase : base ≤ w.heap.size) {now id : Int} {forged : Bool} {Kr : Value → Value → World → Prop}
    (hK : ∀ w' d', Step base n { n with lanes := n.lanes.set k d' } w w' → d'.abs = d.abs.put ⟨id, now, forged, bs⟩ (!n.abs.isDown p) → Kr (.int .i64 id) (.int .i64 0) w') :
    F24_2 Kr (.pointer (some ⟨n.b, 0, none⟩)) (.int .i64 p) (.slice a bs.length c) (.int .i64 now) (.bool forged) (.pointer (some ⟨d.b, 0, none⟩)) (.int .i64 id) w := by
  obtain ⟨ad, dn, ha, hdn, hcell⟩ := down_at h h0 h1
  unfold F24_2 drw
  simp only [rdP_mk, rdI_mk, rdC_mk, rdB_mk, nn_some, add_mk]
  have f0 : Same w w.drew := (Fr.refl w).drew
  refine ⟨w.drew, Pres.refl _, ?_⟩
  refine ldC_at (w := w.drew) h.cell rfl ?_
  rw [ha]
  refine ixS_of h0 h1 (ldB_c (w := w.drew) hcell ?_)
  refine cl (c41 (Rd.same hr f0) hl) ?_
  rintro _ w2 ⟨a2, c2, rfl, o2, f2⟩
  refine ⟨_, _, _, rfl, Pres.of_same f2, ?_⟩
  have g2 : Same w w2 := f0.trans f2 fun _ _ x => x
  have h2 := h.same g2
  have l2 := h2.lanes d (List.mem_of_getElem? hk)
  have hnd := lane_nodup h hk
  have hdown : n.abs.isDown p = dn := by
    unfold NT.isDown Nt.abs
    simp [hdn]
  have hz := g2.size
  have hdf : d.b ∈ d.foot := by unfold La.foot; simp
  rw [hdown] at hK
  cases dn with
  | false =>
    refine cl (c45_up (pk := ⟨id, now, forged, bs, a2, c2⟩) l2 hnd (o2.mono hbase) hl hm (fun k hk' hf => ?_) (Nat.le_trans hbase hz)) ?_
    · have := (o2.base_le hk').1
      have h3 := (h.lanes d (List.mem_of_getElem? hk)).foot_lt hf
      have : w.drew.heap.size = w.heap.size := rfl
      omega
    rintro _ w3 ⟨rfl, a3, c3, l3, f3, s3⟩
    refine ⟨rfl, hK w3 { d with a := a3, c := c3, ps := d.ps ++ [⟨id, now, forged, bs, a2, c2⟩] } ?_ ?_⟩
    · have hf3 : Fr (fun x => x = n.b ∨ x ∈ d.foot) w w3 := (g2.mono (S' := fun x => x = n.b ∨ x ∈ d.foot) fun _ _ x => x.elim).trans f3 fun i _ x => .inr (by
        rcases x with rfl | x
        · exact hdf
        · unfold La.foot; simp [mem_blk.2 x])
      have hnb : w3.heap[n.b]? = some (.cells #[.slice n.la n.down.length n.lc, .slice n.da n.down.length n.dc, .int .i64 n.next] 57 (0, 0)) := f3.blk (g2.blk h.cell fun x => x) (by
        rintro (x | x)
        · exact net_apart h hk (x ▸ hdf)
        · exact net_apart h hk (by unfold La.foot; simp [mem_blk.2 x]))
      refine h.step (d' := { d with a := a3, c := c3, ps := d.ps ++ [⟨id, now, forged, bs, a2, c2⟩] }) (nx := n.next) hk hf3 hnb l3 rfl ?_ fun x hx => ?_
      · -- apart: the new blocks are new
        have hlt : ∀ x ∈ d.foot, x < w.heap.size := fun x hx => ((h.lanes d (List.mem_of_getElem? hk)).foot_lt hx).2
        have hnew2 : ∀ x, inB a2 x → w.heap.size ≤ x ∧ x < w2.heap.size := fun x hx => o2.base_le hx
        have hd3 : ∀ x, inB a3 x → inB d.a x ∨ w2.heap.size ≤ x := s3
        unfold La.foot at hnd hlt ⊢
        rw [List.nodup_cons, List.nodup_append] at hnd
        obtain ⟨q1, q2, q3, q4⟩ := hnd
        simp only [List.mem_append, not_or] at q1
        have hbl : ∀ (a : Option Addr), (blk a).Nodup := fun a => by cases a <;> simp [blk]
        rw [List.nodup_cons, List.nodup_append]
        simp only [List.flatMap_append, List.flatMap_cons, List.flatMap_nil, List.append_nil]
        have hdb := hlt d.b (by simp)
        refine ⟨?_, hbl _, ?_, ?_⟩
        · simp only [List.mem_append, not_or, mem_blk]
          refine ⟨fun hx => ?_, q1.2, fun hx => ?_⟩
          · rcases hd3 _ hx with h | h
            · exact q1.1 (mem_blk.2 h)
            · omega
          · have := (hnew2 _ hx).1; omega
        · rw [List.nodup_append]
          refine ⟨q3, hbl _, fun x hx y hy e => ?_⟩
          subst e
          have := hlt x (by simp only [List.mem_cons, List.mem_append]; exact .inr (.inr hx))
          have := (hnew2 x (mem_blk.1 hy)).1
          omega
        · intro x hx y hy e
          subst e
          have hx' := mem_blk.1 hx
          rcases List.mem_append.1 hy with hy | hy
          · have := hlt x (by simp only [List.mem_cons, List.mem_append]; exact .inr (.inr hy))
            rcases hd3 x hx' with h | h
            · exact q4 x (mem_blk.2 h) x hy rfl
            · omega
          · have hn := hnew2 x (mem_blk.1 hy)
            rcases hd3 x hx' with h | h
            · have := hlt x (by simp only [List.mem_cons, List.mem_append]; exact .inr (.inl (mem_blk.2 h)))
              omega
            · omega
      · unfold La.foot at hx ⊢
        simp only [List.mem_cons, List.mem_append, List.flatMap_append, List.flatMap_cons, List.flatMap_nil, List.append_nil, mem_blk] at hx ⊢
        rcases hx with hx | hx | hx | hx
        · exact .inl (.inl hx)
        · rcases s3 x hx with y | y
          · exact .inl (.inr (.inl y))
          · exact .inr (by omega)
        · exact .inl (.inr (.inr hx))
        · exact .inr (o2.base_le hx).1
    · simp [La.abs, LN.put, Pk.abs]
  | true =>
    refine cl (c45_down l2 hnd) ?_
    rintro _ w3 ⟨rfl, l3, f3⟩
    refine ⟨rfl, hK w3 { d with lost := inc d.lost } ?_ ?_⟩
    · refine h.step (d' := { d with lost := inc d.lost }) (nx := n.next) hk ((g2.mono (S' := fun x => x = n.b ∨ x ∈ d.foot) fun _ _ x => x.elim).trans f3 fun i _ x => .inr (x ▸ hdf)) (f3.blk (g2.blk h.cell fun x => x) fun x => net_apart h hk (x ▸ hdf)) l3 rfl hnd fun x hx => .inl hx
    · simp [La.abs, LN.put]
end
end Go.Proofs.Ytnmgdeimngcbgaa
