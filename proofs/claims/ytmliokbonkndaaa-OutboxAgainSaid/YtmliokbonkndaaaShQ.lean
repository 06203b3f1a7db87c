/-
  What a report tells: blocks of numbers.
-/
import Derived.Test.YtmliokbonkndaaaObS
import Derived.Test.YtmliokbonkndaaaObA
import Derived.Laws.IdiomCopy
namespace Go.Proofs.Ytmliokbonkndaaa
open Go Go.Sh
/-- a row of yes and no -/
def bV (m : Nat) (f : Nat → Bool) : List Value := (List.range m).map fun i => .bool (f i)
theorem bV_length (m : Nat) (f : Nat → Bool) : (bV m f).length = m := by simp [bV]
theorem bV_at {m i : Nat} {f : Nat → Bool} (h : i < m) : (bV m f)[i]? = some (.bool (f i)) := by
  unfold bV
  rw [List.getElem?_map, List.getElem?_range h]; rfl
theorem bV_congr {m : Nat} {f g : Nat → Bool} (h : ∀ i < m, f i = g i) : bV m f = bV m g := by
  unfold bV
  refine List.map_congr_left fun i hi => ?_
  rw [h i (by simpa using hi)]
theorem bV_set {m i : Nat} {f : Nat → Bool} {b : Bool} (h : i < m) : (bV m f).set i (.bool b) = bV m (fun k => if k = i then b else f k) := by
  apply List.ext_getElem?
  intro k
  rw [List.getElem?_set]
  by_cases hk : k < m
  · by_cases hi : i = k
    · subst hi; rw [if_pos rfl, if_pos (by rw [bV_length]; exact hk), bV_at hk, if_pos rfl]
    · rw [if_neg hi, bV_at hk, bV_at hk, if_neg (fun e => hi e.symm)]
  · rw [if_neg (by omega), List.getElem?_eq_none (by rw [bV_length]; omega), List.getElem?_eq_none (by rw [bV_length]; omega)]
abbrev Gp := Int × Int
def gpV (g : Gp) : List Value := [.int .u16 g.1, .int .u16 g.2]
def gapV (X : List Gp) : List Value := X.flatMap gpV
theorem gapV_at {X : List Gp} {j : Nat} {g : Gp} (h : X[j]? = some g) : (gapV X)[j * 2]? = some (.int .u16 g.1) ∧ (gapV X)[j * 2 + 1]? = some (.int .u16 g.2) :=
  ⟨flat_at (f := gpV) (m := 2) (fun _ => rfl) (j := 0) h rfl, flat_at (f := gpV) (m := 2) (fun _ => rfl) (j := 1) h rfl⟩
theorem gapV_length (X : List Gp) : (gapV X).length = X.length * 2 := flat_length (f := gpV) (m := 2) (fun _ => rfl) X
def gOk (X : List Gp) : Prop := ∀ g ∈ X, 0 ≤ g.1 ∧ g.1 ≤ 65535 ∧ 0 ≤ g.2 ∧ g.2 ≤ 65535
def ins (X : List Gp) (d : Int) : Bool := X.any fun g => decide (g.1 ≤ d ∧ d ≤ g.2)
/-- lists of blocks, as they are handed over -/
structure GL (w : World) (la : Option Addr) (hs : List (Option Addr × Nat)) (Gs : List (List Gp)) : Prop where
  len : hs.length = Gs.length
  rows : Rd w la ((hs.zip Gs).map fun p => .slice p.1.1 p.2.length p.1.2)
  gaps : ∀ (j : Nat) (h : Option Addr × Nat) (G : List Gp), hs[j]? = some h → Gs[j]? = some G → Rd w h.1 (gapV G)
  ok : ∀ G ∈ Gs, gOk G ∧ G.length ≤ 140737488355328
  few : Gs.length ≤ 1048576
theorem GL.same {w w' : World} {la : Option Addr} {hs : List (Option Addr × Nat)} {Gs : List (List Gp)} (h : GL w la hs Gs) (s : Same w w') : GL w' la hs Gs :=
  ⟨h.len, h.rows.fr s fun _ _ x => x, fun j x G a b => (h.gaps j x G a b).fr s fun _ _ x => x, h.ok, h.few⟩
theorem GL.row {w : World} {la : Option Addr} {hs : List (Option Addr × Nat)} {Gs : List (List Gp)} {j : Nat} {G : List Gp} {x : Option Addr × Nat} (h : GL w la hs Gs) (hj : Gs[j]? = some G) (hx : hs[j]? = some x) : ∃ ad, la = some ad ∧ w.cell? (ad.add j) = some (.slice x.1 G.length x.2) ∧ Rd w x.1 (gapV G) := by
  have hz : ((hs.zip Gs).map fun p => Value.slice p.1.1 p.2.length p.1.2)[j]? = some (.slice x.1 G.length x.2) := by
    rw [List.getElem?_map]
    have : (hs.zip Gs)[j]? = some (x, G) := by rw [List.getElem?_zip_eq_some]; exact ⟨hx, hj⟩
    rw [this]; rfl
  have hlt := (List.getElem?_eq_some_iff.1 hz).1
  obtain ⟨ad, ha⟩ := h.rows.some (by omega)
  subst ha
  exact ⟨ad, rfl, h.rows.at hz, h.gaps j x G hx hj⟩
section
variable {W w : World} {L M : List HP} {bb : Nat} {n cum : Int} {a la : Option Addr} {c lc : Nat} {hs : List (Option Addr × Nat)} {es : List (Nat × En)} {b m : Nat} {e : En} {Gs : List (List Gp)} {hs : List (Option Addr × Nat)}
theorem c58_1 {ta : Option Addr} {tc g : Nat} {s E base : Int} (h0s : 0 ≤ s) (hE : 0 ≤ E ∧ E ≤ 65535) (hb : -4294967296 ≤ base ∧ base ≤ 4294967296) (hm : m ≤ 1048576) {v22 v23 v24 v28 v29 v30 : Value} {r22 r23 r24 r28 r29 r30 : Prop}
    {l5a l8a : Option Addr} {l5n l5c l8n l8c : Nat} {n6 n7 n9 n10 : Int} {K4 : Value → Value → Value → Value → Value → Value → Value → Value → World → Prop} :
    ∀ (i : Nat) (d : Int) (f : Nat → Bool) (w : World) (k : Nat), (E + 1 - d).toNat = i → 0 ≤ d → d ≤ 65536 → Hs W (slP 4 1 ta m tc (bV m f) :: pt g (.cells #[.int .u16 s, .int .u16 E] 44 (0, 0)) :: L) w → i < k →
      (∀ w', Hs W (slP 4 1 ta m tc (bV m fun k => f k || decide (d ≤ (k : Int) - base ∧ (k : Int) - base ≤ E)) :: pt g (.cells #[.int .u16 s, .int .u16 E] 44 (0, 0)) :: L) w' → K4 (.slice ta m tc) (.int .i64 base) (.slice l5a l5n l5c) (.int .i64 n6) (.int .i64 n7) (.slice l8a l8n l8c) (.int .i64 n9) (.int .i64 n10) w') →
      F58_1 K4 k (.slice ta m tc) (.int .i64 base) (.pointer (some ⟨g, 0, none⟩)) (.int .i64 d) (.slice l5a l5n l5c) (.int .i64 n6) (.int .i64 n7) (.slice l8a l8n l8c) (.int .i64 n9) (.int .i64 n10) w := by
  intro i
  induction i with
  | zero =>
    intro d f w k hi hd0 hd1 h hk hK
    obtain ⟨k, rfl⟩ : ∃ j, k = j + 1 := ⟨k - 1, by omega⟩
    show F58_1B _ _ _ _ _ _ _ _ _ _ _ _ _
    unfold F58_1B
    simp only [rdC_mk, rdI_mk, rdA_mk, add_mk]
    refine h.ldI 1 rfl rfl ?_
    rw [wrap_i64 (n := E) (by omega) (by omega), br_dec]
    refine ⟨fun hle => by exfalso; omega, fun _ => hK w ?_⟩
    refine h.cast ?_
    congr 2
    refine bV_congr fun k _ => ?_
    rw [show decide (d ≤ (k : Int) - base ∧ (k : Int) - base ≤ E) = false by simp; omega, Bool.or_false]
  | succ i ih =>
    intro d f w k hi hd0 hd1 h hk hK
    obtain ⟨k, rfl⟩ : ∃ j, k = j + 1 := ⟨k - 1, by omega⟩
    show F58_1B _ _ _ _ _ _ _ _ _ _ _ _ _
    unfold F58_1B
    simp only [rdC_mk, rdI_mk, rdA_mk, add_mk]
    refine h.ldI 1 rfl rfl ?_
    rw [wrap_i64 (n := E) (by omega) (by omega), br_dec]
    refine ⟨fun hle => ?_, fun h => by exfalso; omega⟩
    rw [wrap_i64 (n := base + d) (by omega) (by omega), wrap_i64 (n := d + 1) (by omega) (by omega)]
    have next : ∀ (f' : Nat → Bool) (w' : World), Hs W (slP 4 1 ta m tc (bV m f') :: pt g (.cells #[.int .u16 s, .int .u16 E] 44 (0, 0)) :: L) w' → (∀ k < m, (f' k || decide (d + 1 ≤ (k : Int) - base ∧ (k : Int) - base ≤ E)) = (f k || decide (d ≤ (k : Int) - base ∧ (k : Int) - base ≤ E))) →
        F58_1 K4 k (.slice ta m tc) (.int .i64 base) (.pointer (some ⟨g, 0, none⟩)) (.int .i64 (d + 1)) (.slice l5a l5n l5c) (.int .i64 n6) (.int .i64 n7) (.slice l8a l8n l8c) (.int .i64 n9) (.int .i64 n10) w' := by
      intro f' w' h' hf
      refine ih (d + 1) f' w' k (by omega) (by omega) (by omega) h' (by omega) fun w2 h2 => hK w2 ?_
      refine h2.cast ?_
      congr 2
      exact bV_congr hf
    have out : ∀ k < m, base + d < 0 ∨ base + d ≥ (m : Int) → (f k || decide (d + 1 ≤ (k : Int) - base ∧ (k : Int) - base ≤ E)) = (f k || decide (d ≤ (k : Int) - base ∧ (k : Int) - base ≤ E)) := by
      intro k hk ho
      congr 1
      rw [decide_eq_decide]
      constructor <;> intro h <;> omega
    rw [br_dec]
    refine ⟨fun h1 => ?_, fun h1 => next f w h fun k hk => out k hk (.inl (by omega))⟩
    rw [br_dec]
    refine ⟨fun h2 => ?_, fun h2 => next f w h fun k hk => out k hk (.inr (by omega))⟩
    have hr := h.rd 0 rfl
    obtain ⟨ad, rfl⟩ := hr.some (by rw [bV_length]; omega)
    refine ixS_of h1 h2 ?_
    rw [Nat.mul_one]
    refine h.put 0 rfl (by rw [bV_length]; omega) fun w2 h2' => ?_
    rw [bV_set (by omega)] at h2'
    refine next _ w2 h2' fun k hk => ?_
    by_cases hkd : k = (base + d).toNat
    · rw [if_pos hkd, show decide (d ≤ (k : Int) - base ∧ (k : Int) - base ≤ E) = true by simp; omega]
      simp
    · rw [if_neg hkd]
      congr 1
      rw [decide_eq_decide]
      constructor <;> intro h <;> omega
theorem c58_2 {ta : Option Addr} {tc : Nat} {base : Int} (hb : -4294967296 ≤ base ∧ base ≤ 4294967296) (hm : m ≤ 1048576) {ga : Option Addr} {gc : Nat} {G : List Gp} (hG : gOk G) (hGl : G.length ≤ 140737488355328)
    {l5a : Option Addr} {l5n l5c : Nat} {n6 n7 : Int} {K2 : Value → Value → Value → Value → Value → World → Prop} (hr : ∀ {w' : World} {A : HP}, Hs W (A :: L) w' → Rd w' ga (gapV G)) :
    ∀ (i j : Nat) (f : Nat → Bool) (w : World) (k : Nat), j + i = G.length → Hs W (slP 4 1 ta m tc (bV m f) :: L) w → i < k →
      (∀ w', Hs W (slP 4 1 ta m tc (bV m fun k => f k || ins (G.drop j) ((k : Int) - base)) :: L) w' → K2 (.slice ta m tc) (.int .i64 base) (.slice l5a l5n l5c) (.int .i64 n6) (.int .i64 n7) w') →
      F58_2 K2 k (.slice ta m tc) (.int .i64 base) (.slice l5a l5n l5c) (.int .i64 n6) (.int .i64 n7) (.slice ga G.length gc) (.int .i64 (G.length : Int)) (.int .i64 (j : Int)) w := by
  intro i
  induction i with
  | zero =>
    intro j f w k hj h hk hK
    obtain ⟨k, rfl⟩ : ∃ j, k = j + 1 := ⟨k - 1, by omega⟩
    show F58_2B _ _ _ _ _ _ _ _ _ _ _
    unfold F58_2B
    simp only [rdC_mk, rdI_mk, br_dec]
    refine ⟨fun hle => by exfalso; omega, fun _ => hK w ?_⟩
    rw [List.drop_eq_nil_of_le (by omega)]
    simpa [ins] using h
  | succ i ih =>
    intro j f w k hj h hk hK
    obtain ⟨k, rfl⟩ : ∃ j, k = j + 1 := ⟨k - 1, by omega⟩
    show F58_2B _ _ _ _ _ _ _ _ _ _ _
    unfold F58_2B
    simp only [rdC_mk, rdI_mk, br_dec]
    refine ⟨fun hle => ?_, fun h => by exfalso; omega⟩
    obtain ⟨g, hg⟩ : ∃ g, G[j]? = some g := ⟨G[j]'(by omega), by simp⟩
    obtain ⟨o1, o2, o3, o4⟩ := hG g (List.mem_of_getElem? hg)
    have hrw := hr h
    obtain ⟨ad, rfl⟩ := hrw.some (by rw [gapV_length]; omega)
    refine ixS_of (by omega) (by omega) ?_
    rw [Int.toNat_natCast]
    obtain ⟨g1, g2⟩ := gapV_at hg
    refine ldI_c (by rw [add_add]; exact hrw.at g1) (ldI_c (by rw [add_add]; exact hrw.at g2) ?_)
    refine h.alc fun b w1 h1 => ?_
    simp only [add_mk]
    refine h1.stc 0 rfl (by simp) fun w2 h2 => h2.stc 0 rfl (by simp) fun w3 h3 => ?_
    have h3 : Hs W (pt b (.cells #[.int .u16 g.1, .int .u16 g.2] 44 (0, 0)) :: slP 4 1 ta m tc (bV m f) :: L) w3 := h3
    refine h3.ldI 0 rfl rfl ?_
    have h3 : Hs W (slP 4 1 ta m tc (bV m f) :: pt b (.cells #[.int .u16 g.1, .int .u16 g.2] 44 (0, 0)) :: L) w3 := h3.perm (List.Perm.swap _ _ _)
    rw [wrap_i64 (n := g.1) (by omega) (by omega)]
    refine ⟨65538, c58_1 (s := g.1) (E := g.2) o1 ⟨o3, o4⟩ hb hm (v22 := undef) (v23 := undef) (v24 := undef) (v28 := undef) (v29 := undef) (v30 := undef) (r22 := True) (r23 := True) (r24 := True) (r28 := True) (r29 := True) (r30 := True) (g.2 + 1 - g.1).toNat g.1 f w3 _ rfl o1 (by omega) h3 (by omega) fun w4 h4 _g => ?_⟩
    simp only [rdC_mk, rdI_mk]
    have e1 : IntKind.wrap .i64 ((j : Int) + 1) = ((j + 1 : Nat) : Int) := by rw [wrap_i64 (by omega) (by omega)]; omega
    rw [e1]
    refine ih (j + 1) _ w4 k (by omega) (h4.erase 1) (by omega) fun w5 h5 => hK w5 ?_
    refine h5.cast ?_
    congr 2
    refine bV_congr fun k _ => ?_
    rw [show G.drop j = g :: G.drop (j + 1) by rw [List.drop_eq_getElem_cons (by omega), (List.getElem?_eq_some_iff.1 hg).2]]
    unfold ins
    rw [List.any_cons, Bool.or_assoc]
theorem c58 {ta : Option Addr} {tc : Nat} {f : Nat → Bool} (hb : RB w bb n cum es) (hm : m ≤ 1048576) (h : Hs W (slP 4 1 ta m tc (bV m f) :: L) w) (tsn : Int)
    (hg : ∀ w' A, Hs W (A :: L) w' → GL w' la hs Gs) :
    Calls Try.prog 58 #[.pointer (some ⟨bb, 0, none⟩), .int .u32 tsn, .slice ta m tc, .slice la Gs.length lc] w (rt fun v w' => v = .tuple #[] ∧ Hs W (slP 4 1 ta m tc (bV m fun k => f k || Gs.any fun G => ins G ((k : Int) + 1 - sd cum tsn)) :: L) w') := by
  refine F58_ok ?_
  unfold F58
  simp only [rdP_mk, rdI_mk, rdC_mk, nn_some, add_mk]
  obtain ⟨⟨a, c, hblk, _⟩, _⟩ := hb
  refine ldI_at hblk rfl ?_
  refine clr (s37 cum tsn w) ⟨_, rfl, ?_⟩
  obtain ⟨r1, r2⟩ := sd_range cum tsn
  rw [wrap_i64 (by omega) (by omega)]
  have hfew := (hg w _ h).few
  have hok := (hg w _ h).ok
  have loop : ∀ (i j : Nat) (f : Nat → Bool) (w1 : World) (k : Nat) (K0 : World → Prop), j + i = Gs.length → Hs W (slP 4 1 ta m tc (bV m f) :: L) w1 → i < k →
      (∀ w', Hs W (slP 4 1 ta m tc (bV m fun k => f k || (Gs.drop j).any fun G => ins G ((k : Int) + 1 - sd cum tsn)) :: L) w' → K0 w') →
      F58_3 K0 k (.slice ta m tc) (.int .i64 (sd cum tsn - 1)) (.slice la Gs.length lc) (.int .i64 (Gs.length : Int)) (.int .i64 (j : Int)) w1 := by
    intro i
    induction i with
    | zero =>
      intro j f w1 k K0 hj h hk hK
      obtain ⟨k, rfl⟩ : ∃ j, k = j + 1 := ⟨k - 1, by omega⟩
      show F58_3B _ _ _ _ _ _ _ _
      unfold F58_3B
      simp only [rdC_mk, rdI_mk, br_dec]
      refine ⟨fun hle => by exfalso; omega, fun _ => hK w1 ?_⟩
      rw [List.drop_eq_nil_of_le (by omega)]
      simpa using h
    | succ i ih =>
      intro j f w1 k K0 hj h hk hK
      obtain ⟨k, rfl⟩ : ∃ j, k = j + 1 := ⟨k - 1, by omega⟩
      show F58_3B _ _ _ _ _ _ _ _
      unfold F58_3B
      simp only [rdC_mk, rdI_mk, br_dec]
      refine ⟨fun hle => ?_, fun h => by exfalso; omega⟩
      obtain ⟨G, hG⟩ : ∃ g, Gs[j]? = some g := ⟨Gs[j]'(by omega), by simp⟩
      obtain ⟨x, hx⟩ : ∃ x, hs[j]? = some x := ⟨hs[j]'(by have := (hg w1 _ h).len; omega), by simp⟩
      obtain ⟨ad, hla, hc, hrd⟩ := (hg w1 _ h).row hG hx
      obtain ⟨k1, k2⟩ := hok G (List.mem_of_getElem? hG)
      subst hla
      refine ixS_of (by omega) (by omega) ?_
      rw [Int.toNat_natCast, Nat.mul_one]
      refine ldC_c hc ?_
      refine ⟨G.length + 1, c58_2 (base := sd cum tsn - 1) (by omega) hm k1 k2 (fun h' => (hg _ _ h').gaps j x G hx hG) G.length 0 f w1 _ (by omega) h (by omega) fun w4 h4 _g => ?_⟩
      simp only [rdC_mk, rdI_mk]
      have e1 : IntKind.wrap .i64 ((j : Int) + 1) = ((j + 1 : Nat) : Int) := by rw [wrap_i64 (by omega) (by omega)]; omega
      rw [e1]
      refine ih (j + 1) _ w4 k K0 (by omega) h4 (by omega) fun w5 h5 => hK w5 ?_
      refine h5.cast ?_
      congr 2
      refine bV_congr fun k _ => ?_
      rw [show Gs.drop j = G :: Gs.drop (j + 1) by rw [List.drop_eq_getElem_cons (by omega), (List.getElem?_eq_some_iff.1 hG).2], List.any_cons, List.drop_zero, Bool.or_assoc]
      congr 3
      omega
  refine ⟨Gs.length + 1, loop Gs.length 0 f w _ _ (by omega) h (by omega) fun w5 h5 _g => ⟨trivial, h5⟩⟩
end
end Go.Proofs.Ytmliokbonkndaaa
namespace Go.Sh
open Go
section
variable {P : Program} {W w : World} {L : List HP} {e elem dT sT ty : TypeId} {l c m d : Nat} {a b : Option Addr} {xs ys : List Value}
theorem Hs.copy1 (h : Hs W L w) (i : Nat) (hi : L[i]? = some (slP e 1 a l c xs)) (hu : P.underlying dT = some (.slice elem)) (hs : (P.info? elem).map (·.size) = some 1) (hy : ys.length = m) (hr : Rd w b ys) (h1 : ∀ v ∈ ys, v.oneCell' = true) (hle : m ≤ l)
    {K : Int → World → Prop} (hk : ∀ w', Hs W (L.set i (slP e 1 a l c (ys ++ xs.drop m))) w' → K (m : Int) w') :
    ∃ n w', Sem.run P (Builtin.copy_ #[dT, sT] ty #[.slice a l c, .slice b m d]) w = .ok (.int .i64 n) w' ∧ K n w' := by
  have ho := h.own i hi
  rcases Nat.eq_zero_or_pos m with h0 | h0
  · subst h0
    have : ys = [] := by simpa using hy
    subst this
    refine ⟨_, w, run_copy_none (P := P) w dT sT ty elem a b l c 0 d hu hs (by simp), hk w ?_⟩
    rw [List.drop_zero, List.nil_append, set_id hi]
    exact h
  · obtain ⟨bd, rfl⟩ := hr.some (by omega)
    rcases ho.cases with ⟨rfl, rfl, rfl⟩ | ⟨g, cur, rfl, h2, h3, h4, h5, h6, h7⟩
    · omega
    · have hrun := run_copy_row (P := P) w dT sT ty elem g 0 l c bd m d cur e ys hu hs h3 (by rw [hy]; exact (Nat.min_eq_left hle).symm) (fun j v hj => hr.at hj) (by simp at h6; omega) h1
      rw [setRow_sb h3] at hrun
      refine ⟨_, _, hrun, ?_⟩
      rw [hy]
      refine hk _ ?_
      have hxl := ho.length
      have hcl : cur.toList.length = c := by simp; omega
      refine h.slice i hi (B := W.heap.size) (l' := l) (c' := c) ?_ ((Fr.refl w).sb fun _ => ⟨_, rfl, rfl⟩) fun _ hk => .inl hk
      refine ⟨by rw [List.length_append, List.length_drop, hxl, hy]; omega, .inr ⟨g, c, _, rfl, h2, sb_same h3, h4, h5, ?_, ?_⟩⟩
      · simp only [List.size_toArray, List.length_append, List.length_take, List.length_drop, hcl, hy]
        omega
      · simp only [List.take_zero, List.nil_append, Nat.zero_add, Nat.mul_one] at h7 ⊢
        rw [List.take_append, hy, ← h7, List.take_of_length_le (by omega), List.drop_take]
end
end Go.Sh
