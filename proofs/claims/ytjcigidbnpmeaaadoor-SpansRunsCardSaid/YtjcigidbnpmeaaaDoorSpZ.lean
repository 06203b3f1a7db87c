/- Own text: part of the shallow reading of the code and of the contracts that are proved over it. -/
import Derived.Test.YtjcigidbnpmeaaaDoorSpY
namespace Go.Proofs.YtjcigidbnpmeaaaDoor
open Go Go.Sh Go.Sp
section
variable {b : Nat} {a : Option Addr} {cum : Int} {S : List Nat}
theorem r27_fin {w w1 : World} {L : List Nat} {la : Option Addr} {c : Nat} (hR : RefR w b a cum S) (hf : Same w w1) (ho : Own w1 w.heap.size 3 1 la L.length c (atV L)) (hL : L.length ≤ 65536) (hri : L.Pairwise (· < ·)) (hb : ∀ d ∈ L, 1 ≤ d ∧ d ≤ 65535) {Kr : Value → Value → World → Prop}
    (hK : ∀ w' sa, RefR w' b sa ((cum + (goRun 0 L : Int)) % 4294967296) (shift (goRun 0 L) L) → (∀ k, inB sa k → w.heap.size ≤ k) → Fr (· = b) w w' → Kr (.bool true) (.int .i64 0) w') :
    F27_5 Kr (.pointer (some ⟨b, 0, none⟩)) (.slice la L.length c) w1 := by
  have hc0 := hR.c0
  have hc1 := hR.c1
  have hbl := hR.blt
  obtain ⟨g1, g2, g3⟩ := goRun_spec L 0 hri fun d hd => by have := hb d hd; omega
  have gle := goRun_le L 0
  have gd := goRun_drop L 0 hri fun d hd => by have := hb d hd; omega
  rw [Nat.sub_zero] at gd
  unfold F27_5
  simp only [rdP_mk, rdC_mk]
  refine ⟨L.length + 1, r27_run ho hL L.length 0 _ (by omega) rfl (by omega) fun _g => ?_⟩
  simp only [rdP_mk, rdI_mk, rdC_mk, nn_some, add_mk]
  obtain ⟨c0, k1, k2⟩ := (hR.same hf).blk
  refine ldI_at k1 rfl ?_
  rw [wrap_u32 (n := (goRun 0 L : Int)) (by omega) (by omega)]
  refine clr (c25 _ _ _ hc0 hc1 (by omega) (by omega)) ⟨_, rfl, ?_⟩
  refine stc_at k1 (by simp) (stc_at (sb_same k1) (by simp) ?_)
  generalize hw2 : sb (sb w1 b _) b _ = w2
  have b2 : w2.heap[b]? = some (.cells #[.int .u32 ((cum + (goRun 0 L : Int)) % 4294967296), .slice none 0 0] 56 (0, 0)) := by rw [← hw2]; exact sb_same (sb_same k1)
  have f2 : Fr (· = b) w1 w2 := by rw [← hw2]; exact (((Fr.refl (S := (· = b)) w1).sb (b := b) fun _ => rfl).sb (b := b) fun _ => rfl)
  have z2 : w2.heap.size = w1.heap.size := by rw [← hw2]; simp
  clear hw2
  have hsz := hf.size
  have ho2 := ho.fr f2 fun k hk x => by have := (ho.base_le hk).1; omega
  have hdrop : ∀ d ∈ L.drop (goRun 0 L), goRun 0 L < d := fun d hd => by rw [← gd] at hd; have := (List.mem_filter.1 hd).2; simpa using this
  have hsh : (L.drop (goRun 0 L)).map (· - goRun 0 L) = shift (goRun 0 L) L := by rw [← gd]; rfl
  have start : Own w2 (b + 1) 3 1 none 0 0 (atV []) := Own.nil _ _ _ _
  refine ⟨L.length + 1, ?_⟩
  refine r27_out (w1 := w2) (base := w.heap.size) ho2 (fun x => ?_) hL (fun d hd => (hb d hd).2) (fun d hd => Nat.le_of_lt (hdrop d hd)) (L.length - goRun 0 L) 0 w2 _ none 0 [] (by omega) (by simp) (Fr.refl _) b2 start (fun k ⟨_, e, _⟩ => by cases e) (by omega) fun w3 sa sc f3 b3 o3 hsa _g => ?_
  · have := (ho.base_le x).1; omega
  · rw [hsh] at b3 o3
    refine hK w3 sa ⟨⟨sc, b3, o3⟩, shift_rising hri, fun d hd => ?_, by omega, by omega⟩ (fun k hk => by have := hsa k hk; omega) ?_
    · obtain ⟨m1, m2⟩ := mem_shift.1 hd
      have := hb _ m2
      refine ⟨?_, by omega⟩
      rcases Nat.lt_or_ge d 2 with h3 | h3
      · exfalso
        have : d = 1 := by omega
        subst this
        exact g3 (by rwa [Nat.add_comm])
      · exact h3
    · have h1 : Fr (· = b) w w2 := (hf.mono (S' := (· = b)) fun _ _ x => x.elim).trans f2 fun _ _ x => x
      exact ((h1.mono (S' := fun k => k = b ∨ w2.heap.size ≤ k) fun _ _ x => .inl x).trans f3 fun _ _ x => x).mono fun i hi x => by rcases x with x | x <;> omega
theorem r27 {w : World} (hR : RefR w b a cum S) {t : Int} (h0 : 0 ≤ t) (h1 : t < 4294967296) :
    Calls Tryd.prog 27 #[.pointer (some ⟨b, 0, none⟩), .int .u32 t] w (rt fun v w' => v = .tuple #[.bool (addR cum S t).1, .int .i64 (addR cum S t).2] ∧ ∃ a', RefR w' b a' (addC cum S t) (addS cum S t) ∧ (a' = a ∨ ∀ k, inB a' k → w.heap.size ≤ k) ∧ Fr (· = b) w w') := by
  have hc0 := hR.c0
  have hc1 := hR.c1
  have hlen := hR.len
  obtain ⟨c, k1, k2⟩ := hR.blk
  refine F27_ok ?_
  unfold F27
  simp only [rdP_mk, rdI_mk, nn_some, add_mk]
  refine ldI_at k1 rfl (clr (c19 _ _ _ hc0 hc1 h0 h1) ⟨_, rfl, clr (r30 hR h0 h1) ⟨_, rfl, ?_⟩⟩)
  have keep : addC cum S t = cum → addS cum S t = S → ∃ a', RefR w b a' (addC cum S t) (addS cum S t) ∧ (a' = a ∨ ∀ k, inB a' k → w.heap.size ≤ k) ∧ Fr (· = b) w w := fun e1 e2 => ⟨a, by rw [e1, e2]; exact hR, .inl rfl, Fr.refl w⟩
  by_cases hh : hasS cum S t = true
  · rw [hh, br_true]
    unfold hasS at hh
    simp only [Bool.or_eq_true, decide_eq_true_eq] at hh
    rcases hh with hd | hm
    · refine ⟨by rw [addR, if_pos hd], keep ?_ ?_⟩
      · rw [addC, if_neg (by omega)]
      · rw [addS, if_neg (by omega), if_neg (by omega)]
    · have hr := hR.rng _ hm
      refine ⟨by rw [addR, if_neg (by omega), if_neg (by omega), if_pos (by omega)]; simp [hm], keep ?_ ?_⟩
      · rw [addC, if_neg (by omega)]
      · rw [addS, if_neg (by omega), if_pos (by omega), ins_same hR.rising hm]
  · have hh' : hasS cum S t = false := by simpa using hh
    rw [hh', br_false]
    unfold hasS at hh
    simp only [Bool.or_eq_true, decide_eq_true_eq, not_or] at hh
    obtain ⟨hd, hm⟩ := hh
    simp only [br_dec]
    refine ⟨fun hfar => ⟨by rw [addR, if_neg hd, if_pos hfar], keep ?_ ?_⟩, fun hfar => ?_⟩
    · rw [addC, if_neg (by omega)]
    · rw [addS, if_neg (by omega), if_neg (by omega)]
    obtain ⟨d, hdd⟩ : ∃ d : Nat, sd cum t = d := ⟨(sd cum t).toNat, by omega⟩
    have hsd : (sd cum t).toNat = d := by omega
    rw [hsd] at hm
    have hIl : (ins d S).length = S.length + 1 := ins_length hm
    have hIr := ins_rising (d := d) hR.rising
    have hIb : ∀ e ∈ ins d S, 1 ≤ e ∧ e ≤ 65535 := fun e he => by
      rcases mem_ins.1 he with rfl | he
      · omega
      · have := hR.rng e he; omega
    have fin : ∀ w' sa, RefR w' b sa ((cum + (goRun 0 (ins d S) : Int)) % 4294967296) (shift (goRun 0 (ins d S)) (ins d S)) → (∀ k, inB sa k → w.heap.size ≤ k) → Fr (· = b) w w' →
        (Value.tuple #[.bool true, .int .i64 0] = .tuple #[.bool (addR cum S t).1, .int .i64 (addR cum S t).2] ∧ ∃ a', RefR w' b a' (addC cum S t) (addS cum S t) ∧ (a' = a ∨ ∀ k, inB a' k → w.heap.size ≤ k) ∧ Fr (· = b) w w') := by
      intro w' sa h1 h2 h3
      by_cases hd1 : d = 1
      · subst hd1
        have hins : ins 1 S = 1 :: S := by
          cases S with
          | nil => rfl
          | cons x r => have := hR.rng x (by simp); unfold ins; rw [if_pos (by omega)]
        have hg : goRun 0 (ins 1 S) = runS S := by rw [hins, goRun, if_pos rfl]; rfl
        obtain ⟨r1, _⟩ := runS_spec hR.rising fun d hd => (hR.rng d hd).1
        have hs : shift (runS S) (ins 1 S) = shift (runS S) S := by
          rw [hins]; unfold shift; rw [List.filter_cons_of_neg (by simp; omega)]
        rw [hg, hs] at h1
        refine ⟨by rw [addR, if_neg hd, if_neg hfar, if_neg (by omega)], sa, ?_, .inr h2, h3⟩
        rw [addC, addS, if_pos (by omega), if_pos (by omega)]
        exact h1
      · have hg : goRun 0 (ins d S) = 0 := by
          have hne : ∀ e ∈ ins d S, e ≠ 1 := fun e he => by
            rcases mem_ins.1 he with rfl | he
            · omega
            · have := hR.rng e he; omega
          cases hc : ins d S with
          | nil => rfl
          | cons x r => rw [goRun, if_neg (hne x (by rw [hc]; simp))]
        have hs : shift 0 (ins d S) = ins d S := by
          unfold shift
          rw [List.filter_eq_self.2 fun e he => by have := hIb e he; simp; omega]
          simp
        rw [hg, hs] at h1
        refine ⟨by rw [addR, if_neg hd, if_neg hfar, if_pos (by omega), hsd]; simp [hm], sa, ?_, .inr h2, h3⟩
        rw [addC, addS, if_neg (by omega), if_neg (by omega), if_pos (by omega), hsd]
        have : (cum + ((0 : Nat) : Int)) % 4294967296 = cum := by omega
        rw [this] at h1
        exact h1
    rw [hdd]
    refine ⟨S.length + 1, r27_in (w0 := w) hm hR S.length 0 w _ false none 0 0 (by omega) ⟨Fr.refl w, (by simpa [half, atV] using Own.nil w w.heap.size 3 1), (fun h => by cases h), (fun _ => by simp)⟩ (by omega) fun done la l c' w1 H _g => ?_⟩
    simp only [rdP_mk, rdI_mk, rdC_mk, rdB_mk]
    have hl : l = (half S d S.length done).length := by have := H.own.length; rw [atV_length] at this; omega
    cases done with
    | true =>
      have hhf : half S d S.length true = ins d S := by unfold half; rw [if_pos rfl, List.take_length]
      have ho := H.own
      rw [hhf] at ho hl
      subst hl
      simp only [Bool.not_true, br_false]
      refine r27_fin hR H.fr ho (by omega) hIr hIb fun w' sa h1 h2 h3 _g => ?_
      simp only [rdI_mk, rdB_mk]
      exact fin w' sa h1 h2 h3
    | false =>
      have hhf : half S d S.length false = S := by unfold half; rw [if_neg (by simp), List.take_length]
      have ho := H.own
      rw [hhf] at ho hl
      subst hl
      simp only [Bool.not_false, br_true]
      refine own_push H.fr ho (by omega) fun a2 c2 w2 hf2 ho2 => ?_
      have hlast : atV S ++ [.int .i64 (d : Int)] = atV (ins d S) := by
        have := H.no rfl
        rw [List.take_length] at this
        rw [ins_last this, atV_snoc]
      rw [hlast] at ho2
      rw [← hIl] at ho2 ⊢
      refine r27_fin hR hf2 ho2 (by omega) hIr hIb fun w' sa h1 h2 h3 _g => ?_
      simp only [rdI_mk, rdB_mk]
      exact fin w' sa h1 h2 h3
theorem r29_loop {w0 : World} (hR : RefR w0 b a cum S) {d : Int} {K0 : Value → Value → World → Prop} : ∀ (i j : Nat) (w : World) (k : Nat) (la : Option Addr) (l c : Nat), j + i = S.length → Same w0 w → Own w w0.heap.size 3 1 la l c (atV ((S.take j).filter fun e => decide ((e : Int) ≠ d))) → i < k →
    (∀ w' la l c, Same w0 w' → Own w' w0.heap.size 3 1 la l c (atV (S.filter fun e => decide ((e : Int) ≠ d))) → K0 (.pointer (some ⟨b, 0, none⟩)) (.slice la l c) w') →
    F29_1 K0 k (.pointer (some ⟨b, 0, none⟩)) (.int .i64 d) (.slice la l c) (.int .i64 (j : Int)) w := by
  have hlen := hR.len
  intro i
  induction i with
  | zero =>
    intro j w k la l c hj hf ho hk hK
    obtain ⟨k, rfl⟩ : ∃ j, k = j + 1 := ⟨k - 1, by omega⟩
    obtain ⟨c0, k1, k2⟩ := (hR.same hf).blk
    show F29_1B _ _ _ _ _ _ _
    unfold F29_1B
    simp only [rdP_mk, rdI_mk, rdC_mk, nn_some, add_mk]
    refine ldC_at k1 rfl ?_
    simp only [br_dec]
    rw [List.take_of_length_le (by omega)] at ho
    exact ⟨fun h => by exfalso; omega, fun _ => hK w la l c hf ho⟩
  | succ i ih =>
    intro j w k la l c hj hf ho hk hK
    obtain ⟨k, rfl⟩ : ∃ j, k = j + 1 := ⟨k - 1, by omega⟩
    obtain ⟨c0, k1, k2⟩ := (hR.same hf).blk
    obtain ⟨x, hx⟩ : ∃ x, S[j]? = some x := ⟨S[j]'(by omega), by simp⟩
    have htake : S.take (j + 1) = S.take j ++ [x] := by rw [List.take_add_one, hx]; rfl
    have e1 : IntKind.wrap .i64 ((j : Int) + 1) = ((j + 1 : Nat) : Int) := by rw [wrap_i64 (by omega) (by omega)]; omega
    have hl : l ≤ 70000 := by
      have h1 := ho.length
      rw [atV_length] at h1
      have h2 := List.length_filter_le (fun e : Nat => decide ((e : Int) ≠ d)) (S.take j)
      rw [List.length_take] at h2
      omega
    show F29_1B _ _ _ _ _ _ _
    unfold F29_1B
    simp only [rdP_mk, rdI_mk, rdC_mk, nn_some, add_mk]
    refine ldC_at k1 rfl ?_
    simp only [br_dec]
    refine ⟨fun _ => ldC_at k1 rfl ?_, fun h => by exfalso; omega⟩
    obtain ⟨ad, ha⟩ := k2.rd.some (by rw [atV_length]; omega)
    rw [ha] at k1 k2 ⊢
    refine ixS_of (by omega) (by omega) ?_
    simp only [Int.toNat_natCast, Nat.mul_one]
    refine ldI_c (k2.rd.at (atV_at hx)) ?_
    rw [e1]
    by_cases hxd : (x : Int) = d
    · have : ((x : Int) != d) = false := by simp [hxd]
      rw [this, br_false]
      refine ih (j + 1) w k la l c (by omega) hf ?_ (by omega) hK
      rw [htake, List.filter_append, List.filter_cons_of_neg (by simp [hxd])]
      simpa using ho
    · have : ((x : Int) != d) = true := by simp [hxd]
      rw [this, br_true]
      refine ldC_at k1 rfl (ixS_of (by omega) (by omega) ?_)
      simp only [Int.toNat_natCast, Nat.mul_one]
      refine ldI_c (k2.rd.at (atV_at hx)) (own_push hf ho (by omega) fun a2 c2 w2 hf2 ho2 => ?_)
      refine ih (j + 1) w2 k a2 (l + 1) c2 (by omega) hf2 ?_ (by omega) hK
      rw [htake, List.filter_append, List.filter_cons_of_pos (by simp [hxd]), List.filter_nil, atV_snoc]
      exact ho2
theorem r29 {w : World} (hR : RefR w b a cum S) {t : Int} (h0 : 0 ≤ t) (h1 : t < 4294967296) :
    Calls Tryd.prog 29 #[.pointer (some ⟨b, 0, none⟩), .int .u32 t] w (rt fun v w' => v = .bool (decide ((sd cum t).toNat ∈ S)) ∧ ∃ a', RefR w' b a' cum (del (sd cum t).toNat S) ∧ (∀ k, inB a' k → w.heap.size ≤ k) ∧ Fr (· = b) w w') := by
  have hc0 := hR.c0
  have hc1 := hR.c1
  have hbl := hR.blt
  obtain ⟨c, k1, k2⟩ := hR.blk
  refine F29_ok ?_
  unfold F29
  simp only [rdP_mk, rdI_mk, nn_some, add_mk]
  refine ldI_at k1 rfl (clr (c19 _ _ _ hc0 hc1 h0 h1) ⟨_, rfl, S.length + 1, ?_⟩)
  refine r29_loop (w0 := w) hR S.length 0 w _ none 0 0 (by omega) (Fr.refl w) (by simpa [atV] using Own.nil _ _ _ _) (by omega) fun w1 la l c1 hf ho _g => ?_
  simp only [rdP_mk, rdC_mk, nn_some, add_mk]
  have hfil : (S.filter fun (e : Nat) => decide ((e : Int) ≠ sd cum t)) = del (sd cum t).toNat S := by
    unfold del
    refine List.filter_congr fun e he => ?_
    have := hR.rng e he
    rw [Bool.eq_iff_iff]
    simp only [decide_eq_true_eq, bne_iff_ne]
    omega
  rw [hfil] at ho
  have hl : l = (del (sd cum t).toNat S).length := by have := ho.length; rw [atV_length] at this; omega
  subst hl
  obtain ⟨c2, q1, q2⟩ := (hR.same hf).blk
  refine ldC_at q1 rfl (stc_at q1 (by simp) ?_)
  generalize hw2 : sb w1 b _ = w2
  have b2 : w2.heap[b]? = some (.cells #[.int .u32 cum, .slice la (del (sd cum t).toNat S).length c1] 56 (0, 0)) := by rw [← hw2]; exact sb_same q1
  have f2 : Fr (· = b) w1 w2 := by rw [← hw2]; exact (Fr.refl (S := (· = b)) w1).sb (b := b) fun _ => rfl
  clear hw2
  refine ⟨?_, la, ⟨⟨c1, b2, (ho.fr f2 fun k hk x => by have := (ho.base_le hk).1; omega).mono (by omega)⟩, del_rising hR.rising, fun e he => hR.rng e (mem_del.1 he).1, hc0, hc1⟩, fun k hk => (ho.base_le hk).1, (hf.mono (S' := (· = b)) fun _ _ x => x.elim).trans f2 fun _ _ x => x⟩
  rw [Value.bool.injEq, decide_eq_decide]
  constructor
  · intro h
    refine Classical.byContradiction fun hn => ?_
    have : del (sd cum t).toNat S = S := by
      unfold del
      rw [List.filter_eq_self]
      intro e he
      simp
      intro h'; rw [h'] at he; exact hn he
    rw [this] at h; omega
  · intro hm
    have := del_length hR.rising hm
    omega
end
end Go.Proofs.YtjcigidbnpmeaaaDoor
