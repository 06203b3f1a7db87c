/- Own text: part of the shallow reading of the code and of the contracts that are proved over it. -/
import Derived.Test.YtnmgdeimngcbgaaNtF
import Derived.Test.YtnmgdeimngcbgaaShM
namespace Go.Proofs.Ytnmgdeimngcbgaa
open Go Go.Sh

/-! the network's shape: descriptors, their blocks -/
noncomputable def E55i : TypeInfo := (Try.prog.info? 70).getD default
theorem E55 : ElemT Try.prog 55 70 2 16 (.agg #[.pointer none, .pointer none]) E55i := ⟨by kernel_rfl, by kernel_rfl, by kernel_rfl, by kernel_rfl, by kernel_rfl, rfl, by decide⟩
noncomputable def E67i : TypeInfo := (Try.prog.info? 83).getD default
theorem E67 : ElemT Try.prog 67 83 5 56 (.agg #[.int .i64 0, .int .i64 0, .int .i64 0, .bool false, .slice none 0 0]) E67i := ⟨by kernel_rfl, by kernel_rfl, by kernel_rfl, by kernel_rfl, by kernel_rfl, rfl, by decide⟩
noncomputable def E39i : TypeInfo := (Try.prog.info? 43).getD default
theorem E39 : ElemT Try.prog 39 43 4 32 (.agg #[.int .i64 0, .int .i64 0, .int .i64 0, .bool false]) E39i := ⟨by kernel_rfl, by kernel_rfl, by kernel_rfl, by kernel_rfl, by kernel_rfl, rfl, by decide⟩
noncomputable def E23i : TypeInfo := (Try.prog.info? 5).getD default
theorem E23 : ElemT Try.prog 23 5 1 1 (.int .u8 0) E23i := ⟨by kernel_rfl, by kernel_rfl, by kernel_rfl, by kernel_rfl, by kernel_rfl, rfl, by decide⟩
noncomputable def E36i : TypeInfo := (Try.prog.info? 4).getD default
theorem E36 : ElemT Try.prog 36 4 1 1 (.bool false) E36i := ⟨by kernel_rfl, by kernel_rfl, by kernel_rfl, by kernel_rfl, by kernel_rfl, rfl, by decide⟩

abbrev Same (w w' : World) : Prop := Fr (fun _ => False) w w'
theorem Rd.same {w w' : World} {a : Option Addr} {xs : List Value} (h : Rd w a xs) (hf : Same w w') : Rd w' a xs := h.fr hf fun _ _ x => x
def blk : Option Addr → List Nat
  | none => []
  | some ad => [ad.block]
theorem mem_blk {a : Option Addr} {k : Nat} : k ∈ blk a ↔ inB a k := by
  cases a with
  | none => simp [blk, inB]
  | some ad => simp [blk, inB]; exact eq_comm
/-- a packet -/
structure Pk where
  id : Int
  now : Int
  forged : Bool
  bytes : List Int
  a : Option Addr
  c : Nat
def byV (bs : List Int) : List Value := bs.map (Value.int .u8)
theorem byV_length (bs : List Int) : (byV bs).length = bs.length := by simp [byV]
def pkV (p : Pk) : List Value := [.int .i64 p.id, .int .i64 p.now, .int .i64 (p.bytes.length : Int), .bool p.forged, .slice p.a p.bytes.length p.c]
def pksV (ps : List Pk) : List Value := ps.flatMap pkV
theorem pksV_length (ps : List Pk) : (pksV ps).length = ps.length * 5 := by
  induction ps with
  | nil => rfl
  | cons p ps ih => simp [pksV, pkV] at ih ⊢; omega
theorem pksV_at {ps : List Pk} {j : Nat} {p : Pk} (h : ps[j]? = some p) : (pksV ps)[j * 5]? = some (.int .i64 p.id) ∧ (pksV ps)[j * 5 + 1]? = some (.int .i64 p.now) ∧ (pksV ps)[j * 5 + 2]? = some (.int .i64 (p.bytes.length : Int)) ∧ (pksV ps)[j * 5 + 3]? = some (.bool p.forged) ∧ (pksV ps)[j * 5 + 4]? = some (.slice p.a p.bytes.length p.c) := by
  induction ps generalizing j with
  | nil => simp at h
  | cons q ps ih =>
    have h2 : pksV (q :: ps) = pkV q ++ pksV ps := rfl
    rw [h2]
    cases j with
    | zero => simp at h; subst h; exact ⟨rfl, rfl, rfl, rfl, rfl⟩
    | succ j =>
      have := ih (j := j) (by simpa using h)
      have e : ∀ k, (pkV q ++ pksV ps)[(j + 1) * 5 + k]? = (pksV ps)[j * 5 + k]? := fun k => by
        rw [List.getElem?_append_right (by simp [pkV]; omega)]
        congr 1
        simp [pkV]; omega
      exact ⟨(e 0).trans this.1, (e 1).trans this.2.1, (e 2).trans this.2.2.1, (e 3).trans this.2.2.2.1, (e 4).trans this.2.2.2.2⟩
theorem pksV_append (ps qs : List Pk) : pksV (ps ++ qs) = pksV ps ++ pksV qs := by simp [pksV]
theorem pksV_take (ps : List Pk) (n : Nat) : (pksV ps).take (n * 5) = pksV (ps.take n) := by
  conv => lhs; rw [← List.take_append_drop n ps, pksV_append]
  rcases Nat.lt_or_ge n ps.length with h | h
  · rw [List.take_append_of_le_length (by rw [pksV_length, List.length_take]; omega), List.take_of_length_le (by rw [pksV_length, List.length_take]; omega)]
  · rw [List.drop_eq_nil_of_le h]
    simp only [pksV, List.flatMap_nil, List.append_nil]
    exact List.take_of_length_le (by have := pksV_length (ps.take n); unfold pksV at this; rw [this, List.length_take]; omega)
theorem pksV_drop (ps : List Pk) (n : Nat) : (pksV ps).drop (n * 5) = pksV (ps.drop n) := by
  conv => lhs; rw [← List.take_append_drop n ps, pksV_append]
  rcases Nat.lt_or_ge n ps.length with h | h
  · rw [List.drop_append_of_le_length (by rw [pksV_length, List.length_take]; omega), List.drop_eq_nil_of_le (by rw [pksV_length, List.length_take]; omega), List.nil_append]
  · have hnil : ps.drop n = [] := List.drop_eq_nil_of_le h
    rw [hnil]
    simp only [pksV, List.flatMap_nil, List.append_nil]
    exact List.drop_eq_nil_of_le (by have := pksV_length (ps.take n); unfold pksV at this; rw [this, List.length_take]; omega)
/-- one way of one path -/
structure La where
  b : Nat
  sent : Int
  del : Int
  lost : Int
  forged : Int
  a : Option Addr
  c : Nat
  ps : List Pk
def La.foot (d : La) : List Nat := d.b :: (blk d.a ++ d.ps.flatMap fun p => blk p.a)
structure LaR (w : World) (base : Nat) (d : La) : Prop where
  cell : w.heap[d.b]? = some (.cells #[.int .i64 d.sent, .int .i64 d.del, .int .i64 d.lost, .int .i64 d.forged, .slice d.a d.ps.length d.c] 69 (0, 0))
  row : Own w base 83 5 d.a d.ps.length d.c (pksV d.ps)
  bytes : ∀ p ∈ d.ps, Own w base 5 1 p.a p.bytes.length p.c (byV p.bytes)
  low : base ≤ d.b
  short : ∀ p ∈ d.ps, p.bytes.length ≤ 65536
  many : d.ps.length ≤ 4096
theorem LaR.foot_lt {w : World} {base : Nat} {d : La} (h : LaR w base d) {k : Nat} (hk : k ∈ d.foot) : base ≤ k ∧ k < w.heap.size := by
  unfold La.foot at hk
  simp only [List.mem_cons, List.mem_append, List.mem_flatMap, mem_blk] at hk
  rcases hk with rfl | hk | ⟨p, hp, hk⟩
  · exact ⟨h.low, lt_of_blk h.cell⟩
  · exact h.row.base_le hk
  · exact (h.bytes p hp).base_le hk
theorem LaR.fr {w w' : World} {base : Nat} {d : La} {X : Nat → Prop} (h : LaR w base d) (hf : Fr X w w') (hn : ∀ k ∈ d.foot, ¬ X k) : LaR w' base d := by
  have hm : ∀ {k}, (k = d.b ∨ inB d.a k ∨ ∃ p ∈ d.ps, inB p.a k) → ¬ X k := fun hk => hn _ (by
    unfold La.foot
    simp only [List.mem_cons, List.mem_append, List.mem_flatMap, mem_blk]
    exact hk)
  exact ⟨hf.blk h.cell (hm (.inl rfl)), h.row.fr hf fun k hk => hm (.inr (.inl hk)), fun p hp => (h.bytes p hp).fr hf fun k hk => hm (.inr (.inr ⟨p, hp, hk⟩)), h.low, h.short, h.many⟩
/-- a network -/
structure Nt where
  b : Nat
  la : Option Addr
  lc : Nat
  da : Option Addr
  dc : Nat
  next : Int
  lanes : List La
  down : List Bool
def ptrV (l : List La) : List Value := l.map fun d => Value.pointer (some ⟨d.b, 0, none⟩)
def Nt.foot (n : Nt) : List Nat := n.b :: (blk n.la ++ (blk n.da ++ n.lanes.flatMap La.foot))
structure NtR (w : World) (base : Nat) (n : Nt) : Prop where
  cell : w.heap[n.b]? = some (.cells #[.slice n.la n.down.length n.lc, .slice n.da n.down.length n.dc, .int .i64 n.next] 57 (0, 0))
  lrow : Own w base 70 2 n.la n.down.length n.lc (ptrV n.lanes)
  drow : Own w base 4 1 n.da n.down.length n.dc (n.down.map Value.bool)
  lanes : ∀ d ∈ n.lanes, LaR w base d
  sep : n.foot.Nodup
  low : base ≤ n.b
  len : n.lanes.length = n.down.length * 2
  few : 1 ≤ n.down.length ∧ n.down.length ≤ 8
theorem NtR.foot_lt {w : World} {base : Nat} {n : Nt} (h : NtR w base n) {k : Nat} (hk : k ∈ n.foot) : base ≤ k ∧ k < w.heap.size := by
  unfold Nt.foot at hk
  simp only [List.mem_cons, List.mem_append, List.mem_flatMap, mem_blk] at hk
  rcases hk with rfl | hk | hk | ⟨d, hd, hk⟩
  · exact ⟨h.low, lt_of_blk h.cell⟩
  · exact h.lrow.base_le hk
  · exact h.drow.base_le hk
  · exact (h.lanes d hd).foot_lt hk
theorem NtR.fr {w w' : World} {base : Nat} {n : Nt} {X : Nat → Prop} (h : NtR w base n) (hf : Fr X w w') (hn : ∀ k ∈ n.foot, ¬ X k) : NtR w' base n := by
  have hm : ∀ {k}, (k = n.b ∨ inB n.la k ∨ inB n.da k ∨ ∃ d ∈ n.lanes, k ∈ d.foot) → ¬ X k := fun hk => hn _ (by
    unfold Nt.foot
    simp only [List.mem_cons, List.mem_append, List.mem_flatMap, mem_blk]
    exact hk)
  exact ⟨hf.blk h.cell (hm (.inl rfl)), h.lrow.fr hf fun k hk => hm (.inr (.inl hk)), h.drow.fr hf fun k hk => hm (.inr (.inr (.inl hk))), fun d hd => (h.lanes d hd).fr hf fun k hk => hm (.inr (.inr (.inr ⟨d, hd, hk⟩))), h.sep, h.low, h.len, h.few⟩
theorem NtR.same {w w' : World} {base : Nat} {n : Nt} (h : NtR w base n) (hf : Same w w') : NtR w' base n := h.fr hf fun _ _ x => x
/-- parts that stand apart: one is laid anew within its own blocks and new ones -/
theorem nodup_swap {A X X' B : List Nat} {z : Nat} (h : (A ++ (X ++ B)).Nodup) (hz : ∀ k ∈ A ++ (X ++ B), k < z) (hX : X'.Nodup) (hs : ∀ k ∈ X', k ∈ X ∨ z ≤ k) : (A ++ (X' ++ B)).Nodup := by
  rw [List.nodup_append] at h ⊢
  obtain ⟨h1, h2, h3⟩ := h
  rw [List.nodup_append] at h2 ⊢
  obtain ⟨h4, h5, h6⟩ := h2
  refine ⟨h1, ⟨hX, h5, fun a ha b hb e => ?_⟩, fun a ha b hb e => ?_⟩
  · subst e
    rcases hs a ha with h | h
    · exact h6 a h a hb rfl
    · have := hz a (by simp [hb]); omega
  · subst e
    rcases List.mem_append.1 hb with hb | hb
    · rcases hs a hb with h | h
      · exact h3 a ha a (by simp [h]) rfl
      · have := hz a (by simp [ha]); omega
    · exact h3 a ha a (by simp [hb]) rfl
theorem split_at {α : Type} {l : List α} {k : Nat} {d : α} (h : l[k]? = some d) : l = l.take k ++ d :: l.drop (k + 1) := by
  have hk := (List.getElem?_eq_some_iff.1 h).1
  have e := (List.getElem?_eq_some_iff.1 h).2
  have h1 := List.take_append_drop k l
  rw [List.drop_eq_getElem_cons hk, e] at h1
  exact h1.symm
theorem set_split {α : Type} {l : List α} {k : Nat} {d x : α} (h : l[k]? = some d) : l.set k x = l.take k ++ x :: l.drop (k + 1) := by
  have hk := (List.getElem?_eq_some_iff.1 h).1
  rw [List.set_eq_take_append_cons_drop, if_pos hk]
/-- one lane has turned, and perhaps the next number -/
theorem NtR.lane {w w' : World} {base : Nat} {n : Nt} {k : Nat} {d d' : La} {nx : Int} (h : NtR w base n) (hk : n.lanes[k]? = some d) (hf : Fr (fun x => x = n.b ∨ x ∈ d.foot) w w')
    (hc : w'.heap[n.b]? = some (.cells #[.slice n.la n.down.length n.lc, .slice n.da n.down.length n.dc, .int .i64 nx] 57 (0, 0))) (hd : LaR w' base d') (hb : d'.b = d.b) (hnd : d'.foot.Nodup) (hsub : ∀ x ∈ d'.foot, x ∈ d.foot ∨ w.heap.size ≤ x) :
    NtR w' base { n with lanes := n.lanes.set k d', next := nx } := by
  have hsp := split_at hk
  have hset := set_split (x := d') hk
  have hfoot : n.foot = (n.b :: (blk n.la ++ (blk n.da ++ (n.lanes.take k).flatMap La.foot))) ++ (d.foot ++ (n.lanes.drop (k + 1)).flatMap La.foot) := by
    unfold Nt.foot
    conv => lhs; rw [hsp]
    simp
  have hsep := h.sep
  rw [hfoot] at hsep
  have hap := List.nodup_append.1 hsep
  have hap2 := List.nodup_append.1 hap.2.1
  -- what stands apart
  have out1 : ∀ x ∈ n.b :: (blk n.la ++ (blk n.da ++ (n.lanes.take k).flatMap La.foot)), x ∉ d.foot := fun x hx hx' => hap.2.2 x hx x (by simp [hx']) rfl
  have out2 : ∀ x ∈ (n.lanes.drop (k + 1)).flatMap La.foot, x ∉ d.foot := fun x hx hx' => hap2.2.2 x hx' x hx rfl
  have hb1 := (List.nodup_cons.1 hap.1).1
  have hb2 : n.b ∉ (n.lanes.drop (k + 1)).flatMap La.foot := fun hx => hap.2.2 n.b (by simp) n.b (by simp [hx]) rfl
  have keep : ∀ x, x ≠ n.b → (x ∈ blk n.la ++ (blk n.da ++ (n.lanes.take k).flatMap La.foot) ∨ x ∈ (n.lanes.drop (k + 1)).flatMap La.foot) → ¬ (x = n.b ∨ x ∈ d.foot) := fun x hne hx => by
    rintro (e | e)
    · exact hne e
    · rcases hx with hx | hx
      · exact out1 x (List.mem_cons_of_mem _ hx) e
      · exact out2 x hx e
  refine ⟨hc, ?_, ?_, fun e he => ?_, ?_, h.low, by rw [List.length_set]; exact h.len, h.few⟩
  · have : ptrV (n.lanes.set k d') = ptrV n.lanes := by
      rw [hset]
      conv => rhs; rw [hsp]
      simp [ptrV, hb]
    show Own w' base 70 2 n.la n.down.length n.lc (ptrV (n.lanes.set k d'))
    rw [this]
    refine h.lrow.fr hf fun x hx => keep x (fun e => hb1 (by rw [← e]; simp [mem_blk.2 hx])) (.inl (by simp [mem_blk.2 hx]))
  · exact h.drow.fr hf fun x hx => keep x (fun e => hb1 (by rw [← e]; simp [mem_blk.2 hx])) (.inl (by simp [mem_blk.2 hx]))
  · have he' : e ∈ n.lanes.take k ++ d' :: n.lanes.drop (k + 1) := by rw [← hset]; exact he
    rcases List.mem_append.1 he' with he' | he'
    · refine (h.lanes e (List.mem_of_mem_take he')).fr hf fun x hx => keep x (fun hxe => hb1 ?_) (.inl ?_)
      · rw [← hxe]
        simp only [List.mem_append, List.mem_flatMap]
        exact .inr (.inr ⟨e, he', hx⟩)
      · simp only [List.mem_append, List.mem_flatMap]
        exact .inr (.inr ⟨e, he', hx⟩)
    · rcases List.mem_cons.1 he' with rfl | he'
      · exact hd
      · refine (h.lanes e (List.mem_of_mem_drop he')).fr hf fun x hx => keep x (fun hxe => hb2 ?_) (.inr ?_)
        · rw [← hxe]
          exact List.mem_flatMap.2 ⟨e, he', hx⟩
        · exact List.mem_flatMap.2 ⟨e, he', hx⟩
  · show (n.b :: (blk n.la ++ (blk n.da ++ (n.lanes.set k d').flatMap La.foot))).Nodup
    have : n.b :: (blk n.la ++ (blk n.da ++ (n.lanes.set k d').flatMap La.foot)) = (n.b :: (blk n.la ++ (blk n.da ++ (n.lanes.take k).flatMap La.foot))) ++ (d'.foot ++ (n.lanes.drop (k + 1)).flatMap La.foot) := by
      rw [hset]; simp
    rw [this]
    exact nodup_swap hsep (fun x hx => (h.foot_lt (by rw [hfoot]; exact hx)).2) hnd hsub
end Go.Proofs.Ytnmgdeimngcbgaa
