/- Own text: part of the shallow reading of the code and of the contracts that are proved over it. -/
import Derived.Test.YtnmgdeimngcbgaaNtM
namespace Go.Proofs.Ytnmgdeimngcbgaa
open Go Go.Sh
section
variable {w : World} {base : Nat} {n : Nt} {d : La}
theorem c9 (h : NtR w base n) (e p now : Int) {a : Option Addr} {bs : List Int} {c : Nat} (hr : Rd w a (byV bs)) (hsrc : bs ≠ [] → ∀ k, inB a k → k ∉ n.foot) (hbase : base ≤ w.heap.size) :
    Calls Try.prog 9 #[.pointer (some ⟨n.b, 0, none⟩), .int .i64 e, .int .i64 p, .slice a bs.length c, .int .i64 now] w (rt fun v w' => v = .tuple #[.int .i64 (if n.abs.code e p now bs.length = 0 then n.next else 0), .int .i64 (n.abs.code e p now bs.length)] ∧ ∃ n', Step base n n' w w' ∧ n'.abs = if n.abs.code e p now bs.length = 0 then n.abs.enter e p now false bs else n.abs) := by
  refine F9_ok ?_
  unfold F9
  simp only [rdP_mk, rdI_mk, rdC_mk]
  refine cl (c24 h e p now false hr hsrc hbase) ?_
  rintro _ w' ⟨rfl, hx⟩
  exact ⟨_, _, rfl, rfl, hx⟩
theorem c16 (h : NtR w base n) (e p now : Int) {a : Option Addr} {bs : List Int} {c : Nat} (hr : Rd w a (byV bs)) (hsrc : bs ≠ [] → ∀ k, inB a k → k ∉ n.foot) (hbase : base ≤ w.heap.size) :
    Calls Try.prog 16 #[.pointer (some ⟨n.b, 0, none⟩), .int .i64 e, .int .i64 p, .slice a bs.length c, .int .i64 now] w (rt fun v w' => v = .tuple #[.int .i64 (if n.abs.code e p now bs.length = 0 then n.next else 0), .int .i64 (n.abs.code e p now bs.length)] ∧ ∃ n', Step base n n' w w' ∧ n'.abs = if n.abs.code e p now bs.length = 0 then n.abs.enter e p now true bs else n.abs) := by
  refine F16_ok ?_
  unfold F16
  simp only [rdP_mk, rdI_mk, rdC_mk]
  refine cl (c24 h e p now true hr hsrc hbase) ?_
  rintro _ w' ⟨rfl, hx⟩
  exact ⟨_, _, rfl, rfl, hx⟩
/-! New -/
def LN.zero : LN := ⟨0, 0, 0, 0, []⟩
def NT.new (m : Nat) : NT := ⟨List.replicate (m * 2) LN.zero, List.replicate m false, 0⟩
/-- as it grows: j of m paths -/
structure Grow (w0 : World) (bn m j : Nat) (n : Nt) (w : World) : Prop where
  fr : Same w0 w
  nb : n.b = bn
  cell : w.heap[n.b]? = some (.cells #[.slice n.la j n.lc, .slice n.da m n.dc, .int .i64 0] 57 (0, 0))
  lrow : Own w w0.heap.size 70 2 n.la j n.lc (ptrV n.lanes)
  drow : Own w w0.heap.size 4 1 n.da m n.dc (n.down.map Value.bool)
  lanes : ∀ d ∈ n.lanes, LaR w w0.heap.size d
  sep : n.foot.Nodup
  low : w0.heap.size ≤ n.b
  abs : n.abs = ⟨List.replicate (j * 2) LN.zero, List.replicate m false, 0⟩
theorem Grow.foot_lt {w0 w : World} {bn m j : Nat} {n : Nt} (h : Grow w0 bn m j n w) {k : Nat} (hk : k ∈ n.foot) : w0.heap.size ≤ k ∧ k < w.heap.size := by
  unfold Nt.foot at hk
  simp only [List.mem_cons, List.mem_append, List.mem_flatMap, mem_blk] at hk
  rcases hk with rfl | hk | hk | ⟨d, hd, hk⟩
  · exact ⟨h.low, lt_of_blk h.cell⟩
  · exact h.lrow.base_le hk
  · exact h.drow.base_le hk
  · exact (h.lanes d hd).foot_lt hk
def L0 (b : Nat) : La := ⟨b, 0, 0, 0, 0, none, 0, []⟩
theorem grow_step {w0 w : World} {bn m j : Nat} {n : Nt} (G : Grow w0 bn m j n w) (hj : j < m) (hm : m ≤ 8) {K : World → Prop} (hK : ∀ w' n', Grow w0 bn m (j + 1) n' w' → K w') :
    ldC ⟨bn, 0 + 0, none⟩ w fun l5a l5n l5c => alc (.cells #[(.int .i64 0), (.int .i64 0), (.int .i64 0), (.int .i64 0), (.slice none 0 0)] 69) w fun b6 w7 => alc (.cells #[(.int .i64 0), (.int .i64 0), (.int .i64 0), (.int .i64 0), (.slice none 0 0)] 69) w7 fun b8 w9 => alc (.cells #[(.pointer (some (Addr.mk b6 0 none))), (.pointer (some (Addr.mk b8 0 none)))] 70) w9 fun b10 w11 => ∃ l12a l12n l12c w13, Sem.run Try.prog (Builtin.append_ #[55, 55] 55 #[(.slice l5a l5n l5c), (.slice (some (Addr.mk b10 0 none)) 1 1)]) w11 = .ok (.slice l12a l12n l12c) w13 ∧ (stc ⟨bn, 0 + 0, none⟩ (.slice l12a l12n l12c) w13 K) := by
  have hnb := G.nb
  subst hnb
  unfold alc
  refine ldC_at G.cell rfl ?_
  have hlt : ∀ k ∈ n.foot, k < w.heap.size := fun k hk => (G.foot_lt hk).2
  obtain ⟨w2, hw2⟩ : ∃ w2, w2 = (w.alloc (.cells #[.int .i64 0, .int .i64 0, .int .i64 0, .int .i64 0, .slice none 0 0] 69)).alloc (.cells #[.int .i64 0, .int .i64 0, .int .i64 0, .int .i64 0, .slice none 0 0] 69) := ⟨_, rfl⟩
  have z2 : w2.heap.size = w.heap.size + 2 := by rw [hw2]; simp
  have l2 : w2.heap[w.heap.size]? = some (.cells #[.int .i64 0, .int .i64 0, .int .i64 0, .int .i64 0, .slice none 0 0] 69 (0, 0)) := by rw [hw2]; exact alloc_blk (alloc_new _ _)
  have m2 : w2.heap[w.heap.size + 1]? = some (.cells #[.int .i64 0, .int .i64 0, .int .i64 0, .int .i64 0, .slice none 0 0] 69 (0, 0)) := by
    have := alloc_new (w.alloc (.cells #[.int .i64 0, .int .i64 0, .int .i64 0, .int .i64 0, .slice none 0 0] 69)) (.cells #[.int .i64 0, .int .i64 0, .int .i64 0, .int .i64 0, .slice none 0 0] 69)
    rw [← hw2] at this
    simpa using this
  have f2 : Same w w2 := by rw [hw2]; exact ((Fr.refl w).alloc _).alloc _
  have hsz : (w.alloc (.cells #[.int .i64 0, .int .i64 0, .int .i64 0, .int .i64 0, .slice none 0 0] 69)).heap.size = w.heap.size + 1 := by simp
  dsimp only
  rw [← hw2, hsz]
  clear hw2 hsz
  have g2 : Same w0 w2 := G.fr.trans f2 fun _ _ x => x
  refine push E55 (G.lrow.fr f2 fun _ _ x => x) (news := #[_, _]) rfl (by simp [Value.oneCell']) (by omega) (by omega) g2.size ?_
  intro a' c' w3 k1 k2 k3
  have hsep := G.sep
  unfold Nt.foot at hsep hlt
  rw [List.nodup_cons, List.nodup_append] at hsep
  obtain ⟨s1, s2, s3, s4⟩ := hsep
  rw [List.mem_append, not_or] at s1
  have hbl := hlt n.b (by simp)
  have cell3 := k2.blk (f2.blk G.cell fun x => x) fun x => s1.1 (mem_blk.2 x)
  refine stc_at cell3 (by simp) ?_
  generalize hw4 : sb w3 n.b _ = w4
  have f4 : Fr (fun x => x = n.b ∨ inB n.la x) w w4 := by
    rw [← hw4]
    exact ((f2.mono (S' := fun x => x = n.b ∨ inB n.la x) fun _ _ x => x.elim).trans k2 fun _ _ x => .inr x).sb fun _ => .inl rfl
  have f4' : Fr (fun x => x = n.b ∨ inB n.la x) w2 w4 := by
    rw [← hw4]
    exact (k2.mono (S' := fun x => x = n.b ∨ inB n.la x) fun _ _ x => .inr x).sb fun _ => .inl rfl
  have c4 : w4.heap[n.b]? = some (.cells #[.slice a' (j + 1) c', .slice n.da m n.dc, .int .i64 0] 57 (0, 0)) := by rw [← hw4]; exact sb_same cell3
  have hla : ∀ x, inB a' x → inB n.la x ∨ w.heap.size + 2 ≤ x := fun x hx => by
    rcases k3 x hx with h | h
    · exact .inl h
    · exact .inr (by omega)
  have hold : ∀ x, inB n.la x → x < w.heap.size := fun x hx => hlt x (by simp [mem_blk.2 hx])
  have o4 : Own w4 w0.heap.size 70 2 a' (j + 1) c' (ptrV (n.lanes ++ [L0 w.heap.size, L0 (w.heap.size + 1)])) := by
    rw [← hw4]
    have : ptrV (n.lanes ++ [L0 w.heap.size, L0 (w.heap.size + 1)]) = ptrV n.lanes ++ [.pointer (some ⟨w.heap.size, 0, none⟩), .pointer (some ⟨w.heap.size + 1, 0, none⟩)] := by simp [ptrV, L0]
    rw [this]
    refine k1.fr ((Fr.refl w3).sb (S := (· = n.b)) fun _ => rfl) fun x hx e => ?_
    rcases hla x hx with h | h
    · exact s1.1 (mem_blk.2 (e ▸ h))
    · omega
  clear hw4
  have n0 := G.fr.size
  have nla : ∀ x, x ∈ blk n.da ++ n.lanes.flatMap La.foot → ¬ (x = n.b ∨ inB n.la x) := fun x hx e => by
    rcases e with e | e
    · exact s1.2 (e ▸ hx)
    · exact s4 x (mem_blk.2 e) x hx rfl
  have hF : ∀ x, x ∈ blk n.da ++ n.lanes.flatMap La.foot → x < w.heap.size := fun x hx => hlt x (by rw [List.mem_cons, List.mem_append]; exact .inr (.inr hx))
  refine hK w4 { n with la := a', lc := c', lanes := n.lanes ++ [L0 w.heap.size, L0 (w.heap.size + 1)] } ⟨?_, rfl, c4, o4, G.drow.fr f4 fun x hx => nla x (by simp [mem_blk.2 hx]), fun d hd => ?_, ?_, G.low, ?_⟩
  · exact ((G.fr.mono (S' := fun k => w0.heap.size ≤ k) fun _ _ x => x.elim).trans f4 fun i _ x => by
      rcases x with rfl | x
      · exact G.low
      · exact (G.lrow.base_le x).1).mono fun i hi x => by omega
  · rcases List.mem_append.1 hd with hd | hd
    · exact (G.lanes d hd).fr f4 fun x hx => nla x (by simp only [List.mem_append, List.mem_flatMap]; exact .inr ⟨d, hd, hx⟩)
    · simp at hd
      rcases hd with rfl | rfl
      · exact ⟨f4'.blk l2 (by
          rintro (e | e)
          · exact absurd (show w.heap.size = n.b from e) (by omega)
          · have := hold w.heap.size e; omega), Own.nil _ _ _ _, by simp [L0], n0, by simp [L0], by simp [L0]⟩
      · exact ⟨f4'.blk m2 (by
          rintro (e | e)
          · exact absurd (show w.heap.size + 1 = n.b from e) (by omega)
          · have := hold (w.heap.size + 1) e; omega), Own.nil _ _ _ _, by simp [L0], by show w0.heap.size ≤ w.heap.size + 1; omega, by simp [L0], by simp [L0]⟩
  · have hfoot : (n.b :: (blk a' ++ (blk n.da ++ (n.lanes ++ [L0 w.heap.size, L0 (w.heap.size + 1)]).flatMap La.foot))) = n.b :: (blk a' ++ ((blk n.da ++ n.lanes.flatMap La.foot) ++ [w.heap.size, w.heap.size + 1])) := by simp [La.foot, blk, L0]
    show (n.b :: (blk a' ++ (blk n.da ++ (n.lanes ++ [L0 w.heap.size, L0 (w.heap.size + 1)]).flatMap La.foot))).Nodup
    rw [hfoot, List.nodup_cons, List.nodup_append]
    refine ⟨?_, by cases a' <;> simp [blk], ?_, ?_⟩
    · rw [List.mem_append, List.mem_append, not_or, not_or]
      refine ⟨fun hx => ?_, s1.2, fun hx => ?_⟩
      · rcases hla _ (mem_blk.1 hx) with h | h
        · exact s1.1 (mem_blk.2 h)
        · omega
      · simp at hx; omega
    · rw [List.nodup_append]
      refine ⟨s3, by simp, fun x hx y hy e => ?_⟩
      subst e
      have := hF x hx
      simp at hy; omega
    · intro x hx y hy e
      subst e
      rcases List.mem_append.1 hy with hy | hy
      · rcases hla x (mem_blk.1 hx) with h | h
        · exact s4 x (mem_blk.2 h) x hy rfl
        · have := hF x hy; omega
      · rcases hla x (mem_blk.1 hx) with h | h
        · have := hold x h; simp at hy; omega
        · simp at hy; omega
  · have ha := G.abs
    simp only [Nt.abs, NT.mk.injEq] at ha ⊢
    refine ⟨?_, ha.2⟩
    rw [List.map_append, ha.1, show (j + 1) * 2 = j * 2 + 1 + 1 by omega, List.replicate_succ', List.replicate_succ']
    simp [La.abs, LN.zero, L0]
theorem c7 (m : Nat) (hm : 1 ≤ m ∧ m ≤ 8) (w : World) : Calls Try.prog 7 #[.int .i64 (m : Int)] w (rt fun v w' => ∃ n, v = .tuple #[.pointer (some ⟨n.b, 0, none⟩), .int .i64 0] ∧ NtR w' w.heap.size n ∧ n.abs = NT.new m ∧ Same w w') := by
  refine F7_ok ?_
  unfold F7
  simp only [rdI_mk, br_dec]
  refine ⟨fun h => by exfalso; omega, fun _ => ⟨fun h => by exfalso; omega, fun _ => ?_⟩⟩
  unfold F7_2 alc
  simp only [rdI_mk]
  refine make_own (base := w.heap.size) E36 (n := m) (by omega) (by omega) (by omega) (Nat.le_refl _) fun w1 o1 f1 => ?_
  have hz : (madeCells (Value.bool false).cells (m * 1)).toList = (List.replicate m false).map Value.bool := by
    apply List.ext_getElem
    · simp [madeCells]
    · intro i h1 h2
      simp [madeCells, Value.cells, Nat.mod_one]
  rw [hz] at o1
  have n0 := f1.size
  have start : Grow w w1.heap.size m 0 ⟨w1.heap.size, none, 0, some ⟨w.heap.size, 0, none⟩, m, 0, [], List.replicate m false⟩ (w1.alloc (.cells #[.slice none 0 0, .slice (some ⟨w.heap.size, 0, none⟩) m m, .int .i64 0] 57)) := by
    refine ⟨f1.alloc _, rfl, alloc_new _ _, Own.nil _ _ _ _, o1.fr ((Fr.refl w1).alloc _) fun _ _ x => x, by simp, ?_, n0, by simp [Nt.abs]⟩
    have := (o1.base_le ⟨_, rfl, rfl⟩).2
    simp [Nt.foot, blk]
    have h2 : w.heap.size < w1.heap.size := this
    omega
  have loop : ∀ (i j : Nat) (w2 : World) (k : Nat) (n : Nt), j + i = m → Grow w w1.heap.size m j n w2 → i < k → F7_1 (fun y4_5 w7 => ∀ _g8 : Tm, rdP y4_5 fun p9 => (fun y2_1 y3_1 w3 => ∀ _g4 : Tm, rdP y2_1 fun p5 => rdI .i64 y3_1 fun n6 => (fun (v : Value) (w' : World) => ∃ n : Nt, v = Value.tuple #[Value.pointer (some ⟨n.b, 0, none⟩), Value.int .i64 0] ∧ NtR w' w.heap.size n ∧ n.abs = NT.new m ∧ Same w w') (.tuple #[(.pointer p5), (.int .i64 n6)]) w3) (.pointer p9) (.int .i64 0) w7) k (.pointer (some ⟨w1.heap.size, 0, none⟩)) (.int .i64 (m : Int)) (.int .i64 (j : Int)) w2 := by
    intro i
    induction i with
    | zero =>
      intro j w2 k n hj G hk
      obtain ⟨k, rfl⟩ : ∃ j, k = j + 1 := ⟨k - 1, by omega⟩
      show F7_1B _ _ _ _ _ _
      unfold F7_1B
      simp only [rdP_mk, rdI_mk, br_dec]
      refine ⟨fun h => by exfalso; omega, fun _ _g _g' => ?_⟩
      have hj' : j = m := by omega
      subst hj'
      have ha := G.abs
      have hdl : n.down.length = j := by
        simp only [Nt.abs, NT.mk.injEq] at ha
        rw [ha.2.1]; simp
      have hll : n.lanes.length = n.down.length * 2 := by
        simp only [Nt.abs, NT.mk.injEq] at ha
        have := congrArg List.length ha.1
        simp at this
        omega
      have hnx : n.next = 0 := by simp only [Nt.abs, NT.mk.injEq] at ha; exact ha.2.2
      refine ⟨n, by rw [G.nb], ⟨by rw [hdl, hnx]; exact G.cell, by rw [hdl]; exact G.lrow, by rw [hdl]; exact G.drow, G.lanes, G.sep, G.low, hll, by omega⟩, by rw [ha]; rfl, G.fr⟩
    | succ i ih =>
      intro j w2 k n hj G hk
      obtain ⟨k, rfl⟩ : ∃ j, k = j + 1 := ⟨k - 1, by omega⟩
      show F7_1B _ _ _ _ _ _
      unfold F7_1B
      simp only [rdP_mk, rdI_mk, br_dec, nn_some, add_mk]
      refine ⟨fun _ => grow_step G (by omega) hm.2 fun w' n' G' => ?_, fun h => by exfalso; omega⟩
      have e1 : IntKind.wrap .i64 ((j : Int) + 1) = ((j + 1 : Nat) : Int) := by rw [wrap_i64 (by omega) (by omega)]; omega
      rw [e1]
      have := ih (j + 1) w' k n' (by omega) G' (by omega)
      simp only [rdP_mk, rdI_mk] at this
      exact this
  have L := loop m 0 _ (m + 1) _ (by omega) start (by omega)
  simp only [rdI_mk] at L
  exact ⟨m + 1, L⟩
theorem c7_bad (m : Int) (hm : m < 1 ∨ 8 < m) (w : World) : Calls Try.prog 7 #[.int .i64 m] w (rt (KR (.tuple #[.pointer none, .int .i64 1]) w)) := by
  refine F7_ok ?_
  unfold F7
  simp only [rdI_mk, br_dec]
  exact ⟨fun _ => KR.mk _ _, fun h1 => ⟨fun _ => KR.mk _ _, fun h2 => by exfalso; omega⟩⟩
end
end Go.Proofs.Ytnmgdeimngcbgaa
