/-
  Rows of chunks, plain: they end.
-/
import Derived.Test.YtaflmpbeonoilaaRmB
import Derived.Test.YtaflmpbeonoilaaShMv
import Derived.Test.YtaflmpbeonoilaaShM
namespace Go.Proofs.Ytaflmpbeonoilaa
open Go Go.Sh
theorem up1_mod (t : Int) : up1 t = (t + 1) % 4294967296 := by unfold up1; rw [wrap_u32_mod]
theorem dn1_mod (t : Int) : dn1 t = (t - 1) % 4294967296 := by unfold dn1; rw [wrap_u32_mod]
theorem look_some {L : List Ch} {t : Int} {x : Ch} (h : look L t = some x) : x ∈ L ∧ x.tsn = t :=
  ⟨List.mem_of_find?_eq_some h, by simpa using List.find?_some h⟩
theorem look_mem {L : List Ch} (hn : (L.map Ch.tsn).Nodup) {x : Ch} (h : x ∈ L) : look L x.tsn = some x := by
  unfold look
  induction L with
  | nil => cases h
  | cons y L ih =>
    rw [List.map_cons, List.nodup_cons] at hn
    rw [List.find?_cons]
    rcases List.mem_cons.1 h with rfl | h
    · simp
    · have : (y.tsn == x.tsn) = false := by
        rw [beq_eq_false_iff_ne]
        intro e
        exact hn.1 (by rw [e]; exact List.mem_map.2 ⟨x, h, rfl⟩)
      rw [this]
      exact ih hn.2 h
theorem look_isSome {L : List Ch} {t : Int} : (look L t).isSome = true ↔ t ∈ L.map Ch.tsn := by
  unfold look
  rw [List.find?_isSome]
  constructor
  · rintro ⟨x, h, e⟩
    exact List.mem_map.2 ⟨x, h, by simpa using e⟩
  · intro h
    obtain ⟨x, h1, e⟩ := List.mem_map.1 h
    exact ⟨x, h1, by simp [e]⟩
theorem fit_held {L : List Ch} {a b : Int} (h : fitB L a b = true) : ∃ x y, look L a = some x ∧ look L b = some y ∧ fit2 x y = true := by
  unfold fitB at h
  cases ha : look L a with
  | none => rw [ha] at h; cases h
  | some x =>
    cases hb : look L b with
    | none => rw [ha, hb] at h; cases h
    | some y => rw [ha, hb] at h; exact ⟨x, y, rfl, rfl, h⟩
theorem fit_mem {L : List Ch} {a b : Int} (h : fitB L a b = true) : a ∈ L.map Ch.tsn ∧ b ∈ L.map Ch.tsn := by
  obtain ⟨x, y, ha, hb, _⟩ := fit_held h
  exact ⟨look_isSome.1 (by rw [ha]; rfl), look_isSome.1 (by rw [hb]; rfl)⟩
theorem nodup_sub_len {α : Type} [DecidableEq α] : ∀ (l l' : List α), l.Nodup → (∀ x ∈ l, x ∈ l') → l.length ≤ l'.length
  | [], _, _, _ => Nat.zero_le _
  | a :: r, l', hn, hs => by
    rw [List.nodup_cons] at hn
    have ha := hs a (by simp)
    have := nodup_sub_len r (l'.erase a) hn.2 fun x hx => (List.mem_erase_of_ne (fun e => hn.1 (by rw [← e]; exact hx))).2 (hs x (by simp [hx]))
    rw [List.length_erase_of_mem ha] at this
    have := List.length_pos_of_mem ha
    simp; omega
/-- numbers one behind the other, all of them held: there are not more of them than chunks -/
theorem run_len {L : List Ch} {t : Int} {n : Nat} (hl : n ≤ 4294967295) (h : ∀ i : Nat, i ≤ n → (t + (i : Int)) % 4294967296 ∈ L.map Ch.tsn) : n + 1 ≤ L.length := by
  have := nodup_sub_len ((List.range (n + 1)).map fun i : Nat => (t + (i : Int)) % 4294967296) (L.map Ch.tsn) ?_ ?_
  · simpa using this
  · unfold List.Nodup
    rw [List.pairwise_map]
    refine List.Pairwise.imp_of_mem ?_ (List.nodup_range (n := n + 1))
    intro a b ha hb hab
    rw [List.mem_range] at ha hb
    omega
  · intro x hx
    obtain ⟨i, hi, rfl⟩ := List.mem_map.1 hx
    rw [List.mem_range] at hi
    exact h i (by omega)
section
variable {L : List Ch}
theorem goB_rng : ∀ (n : Nat) {t : Int}, 0 ≤ t ∧ t < 4294967296 → 0 ≤ goB L n t ∧ goB L n t < 4294967296
  | 0, _, h => h
  | n + 1, t, h => by
    unfold goB
    split
    · exact goB_rng n (by rw [dn1_mod]; omega)
    · exact h
theorem goB_far : ∀ (n : Nat) {t : Int}, 0 ≤ t ∧ t < 4294967296 → fitB L (dn1 (goB L n t)) (goB L n t) = false ∨ ∀ i : Nat, i ≤ n + 1 → (t - (i : Int)) % 4294967296 ∈ L.map Ch.tsn
  | 0, t, h => by
    cases hf : fitB L (dn1 t) t with
    | false => exact .inl hf
    | true =>
      obtain ⟨m1, m2⟩ := fit_mem hf
      refine .inr fun i hi => ?_
      rcases (show i = 0 ∨ i = 1 by omega) with rfl | rfl
      · have : (t - ((0 : Nat) : Int)) % 4294967296 = t := by omega
        rw [this]; exact m2
      · rw [dn1_mod] at m1; exact m1
  | n + 1, t, h => by
    unfold goB
    cases hf : fitB L (dn1 t) t with
    | false => left; simpa using hf
    | true =>
      simp only [if_true]
      have hr : 0 ≤ dn1 t ∧ dn1 t < 4294967296 := by rw [dn1_mod]; omega
      rcases goB_far n hr with h1 | h1
      · exact .inl h1
      · right
        intro i hi
        cases i with
        | zero =>
          have : (t - ((0 : Nat) : Int)) % 4294967296 = t := by omega
          rw [this]; exact (fit_mem hf).2
        | succ i =>
          have := h1 i (by omega)
          rw [dn1_mod] at this
          have e : ((t - 1) % 4294967296 - (i : Int)) % 4294967296 = (t - ((i + 1 : Nat) : Int)) % 4294967296 := by omega
          rw [e] at this
          exact this
theorem goB_stop (hl : L.length ≤ 4294967290) {t : Int} (ht : 0 ≤ t ∧ t < 4294967296) : fitB L (dn1 (goB L L.length t)) (goB L L.length t) = false := by
  rcases goB_far L.length ht with h | h
  · exact h
  · exfalso
    have := run_len (L := L) (t := t - ((L.length + 1 : Nat) : Int)) (n := L.length + 1) (by omega) fun i hi => by
      have := h (L.length + 1 - i) (by omega)
      have e : (t - ((L.length + 1 - i : Nat) : Int)) % 4294967296 = (t - ((L.length + 1 : Nat) : Int) + (i : Int)) % 4294967296 := by omega
      rw [e] at this
      exact this
    omega
/-- the last one of these numbers has none behind it -/
def endF (L : List Ch) : Nat → Int → Prop
  | 0, t => fitB L t (up1 t) = false
  | n + 1, t => fitB L t (up1 t) = true → endF L n (up1 t)
theorem goF_far : ∀ (n : Nat) {t : Int}, 0 ≤ t ∧ t < 4294967296 → endF L n t ∨ ∀ i : Nat, i ≤ n + 1 → (t + (i : Int)) % 4294967296 ∈ L.map Ch.tsn
  | 0, t, h => by
    cases hf : fitB L t (up1 t) with
    | false => exact .inl hf
    | true =>
      obtain ⟨m1, m2⟩ := fit_mem hf
      refine .inr fun i hi => ?_
      rcases (show i = 0 ∨ i = 1 by omega) with rfl | rfl
      · have : (t + ((0 : Nat) : Int)) % 4294967296 = t := by omega
        rw [this]; exact m1
      · rw [up1_mod] at m2; exact m2
  | n + 1, t, h => by
    cases hf : fitB L t (up1 t) with
    | false => left; intro h; rw [hf] at h; cases h
    | true =>
      have hr : 0 ≤ up1 t ∧ up1 t < 4294967296 := by rw [up1_mod]; omega
      rcases goF_far n hr with h1 | h1
      · exact .inl fun _ => h1
      · right
        intro i hi
        cases i with
        | zero =>
          have : (t + ((0 : Nat) : Int)) % 4294967296 = t := by omega
          rw [this]; exact (fit_mem hf).1
        | succ i =>
          have := h1 i (by omega)
          rw [up1_mod] at this
          have e : ((t + 1) % 4294967296 + (i : Int)) % 4294967296 = (t + ((i + 1 : Nat) : Int)) % 4294967296 := by omega
          rw [e] at this
          exact this
theorem goF_stop (hl : L.length ≤ 4294967290) {t : Int} (ht : 0 ≤ t ∧ t < 4294967296) : endF L L.length t := by
  rcases goF_far L.length ht with h | h
  · exact h
  · exfalso
    have := run_len (L := L) (t := t) (n := L.length + 1) (by omega) h
    omega
theorem goF_len : ∀ (n : Nat) (t : Int), 1 ≤ (goF L n t).length ∧ (goF L n t).length ≤ n + 1
  | 0, t => by simp [goF]
  | n + 1, t => by
    unfold goF
    rw [List.length_cons]
    split
    · have := goF_len n (up1 t); omega
    · simp
theorem goF_head (n : Nat) (t : Int) : ∃ r, goF L n t = t :: r := by cases n <;> exact ⟨_, rfl⟩
/-- numbers one behind the other that fit: from a first one, so many more -/
def fitsN (L : List Ch) (f : Int) (n : Nat) : Prop := ∀ i : Nat, i < n → fitB L ((f + (i : Int)) % 4294967296) ((f + ((i + 1 : Nat) : Int)) % 4294967296) = true
def numsN (f : Int) (n : Nat) : List Int := (List.range (n + 1)).map fun i : Nat => (f + (i : Int)) % 4294967296
theorem numsN_zero {f : Int} (h : 0 ≤ f ∧ f < 4294967296) : numsN f 0 = [f] := by
  show [(f + ((0 : Nat) : Int)) % 4294967296] = [f]
  congr 1; omega
theorem numsN_succ {f : Int} (n : Nat) (h : 0 ≤ f ∧ f < 4294967296) : numsN f (n + 1) = f :: numsN (up1 f) n := by
  unfold numsN
  rw [List.range_succ_eq_map, List.map_cons, List.map_map]
  congr 1
  · omega
  · refine List.map_congr_left fun i _ => ?_
    simp only [Function.comp, up1_mod]
    omega
theorem goF_nums : ∀ (n : Nat) {t : Int}, 0 ≤ t ∧ t < 4294967296 → endF L n t → ∃ m, m ≤ n ∧ goF L n t = numsN t m ∧ fitsN L t m ∧ fitB L ((t + (m : Int)) % 4294967296) (up1 ((t + (m : Int)) % 4294967296)) = false
  | 0, t, h, he => ⟨0, Nat.le_refl _, (numsN_zero h).symm, fun i hi => by omega, by
      have : (t + ((0 : Nat) : Int)) % 4294967296 = t := by omega
      rw [this]; exact he⟩
  | n + 1, t, h, he => by
    cases hf : fitB L t (up1 t) with
    | false =>
      refine ⟨0, Nat.zero_le _, ?_, fun i hi => by omega, ?_⟩
      · rw [numsN_zero h]; unfold goF; rw [hf]; rfl
      · have : (t + ((0 : Nat) : Int)) % 4294967296 = t := by omega
        rw [this]; exact hf
    | true =>
      have hr : 0 ≤ up1 t ∧ up1 t < 4294967296 := by rw [up1_mod]; omega
      obtain ⟨m, hm, h1, h2, h3⟩ := goF_nums n hr (he hf)
      refine ⟨m + 1, by omega, ?_, ?_, ?_⟩
      · rw [numsN_succ m h]; unfold goF; rw [hf, if_pos rfl, h1]
      · intro i hi
        cases i with
        | zero =>
          have e1 : (t + ((0 : Nat) : Int)) % 4294967296 = t := by omega
          have e2 : (t + ((0 + 1 : Nat) : Int)) % 4294967296 = up1 t := by rw [up1_mod]; omega
          rw [e1, e2]; exact hf
        | succ i =>
          have := h2 i (by omega)
          rw [up1_mod] at this
          have e1 : ((t + 1) % 4294967296 + (i : Int)) % 4294967296 = (t + ((i + 1 : Nat) : Int)) % 4294967296 := by omega
          have e2 : ((t + 1) % 4294967296 + ((i + 1 : Nat) : Int)) % 4294967296 = (t + ((i + 1 + 1 : Nat) : Int)) % 4294967296 := by omega
          rw [e1, e2] at this
          exact this
      · rw [up1_mod t] at h3
        have e1 : ((t + 1) % 4294967296 + (m : Int)) % 4294967296 = (t + ((m + 1 : Nat) : Int)) % 4294967296 := by omega
        rw [e1] at h3
        exact h3
theorem goB_nums : ∀ (n : Nat) {t : Int}, 0 ≤ t ∧ t < 4294967296 → ∃ m, m ≤ n ∧ t = (goB L n t + (m : Int)) % 4294967296 ∧ fitsN L (goB L n t) m
  | 0, t, h => ⟨0, Nat.le_refl _, by show t = (t + ((0 : Nat) : Int)) % 4294967296; omega, fun i hi => by omega⟩
  | n + 1, t, h => by
    unfold goB
    cases hf : fitB L (dn1 t) t with
    | false =>
      simp only [Bool.false_eq_true, if_false]
      exact ⟨0, Nat.zero_le _, by omega, fun i hi => by omega⟩
    | true =>
      simp only [if_true]
      have hr : 0 ≤ dn1 t ∧ dn1 t < 4294967296 := by rw [dn1_mod]; omega
      obtain ⟨m, hm, h1, h2⟩ := goB_nums n hr
      have hdn := dn1_mod t
      refine ⟨m + 1, by omega, by omega, fun i hi => ?_⟩
      by_cases hi' : i < m
      · exact h2 i hi'
      · have : i = m := by omega
        subst this
        have e1 : (goB L n (dn1 t) + (i : Int)) % 4294967296 = dn1 t := h1.symm
        have e2 : (goB L n (dn1 t) + ((i + 1 : Nat) : Int)) % 4294967296 = t := by omega
        rw [e1, e2]; exact hf
end
end Go.Proofs.Ytaflmpbeonoilaa
namespace Go.Proofs.Ytaflmpbeonoilaa
open Go Go.Sh
section
variable {W w : World} {L M : List HP} {tb mc mf : Nat} {hd : Int} {d : TD} {s : St} {es : List Ec}
abbrev rowZ (b3 b5 tb : Nat) (hd : Int) (d : TD) (s : St) (A : List HP) (t : Int) : List HP := pt b3 (.cells #[.pointer (some ⟨tb, 0, none⟩)] 92 (0, 0)) :: pt b5 (.cells #[.int .u32 t] 30 (0, 0)) :: (tabL tb hd d s ++ A)
theorem rowZ_rt {b3 b5 : Nat} {A : List HP} {t : Int} (h : Hs W (rowZ b3 b5 tb hd d s A t) w) : RT w tb d.mc d.mf d.es s.F := tab_rt (L := A) h.drop.drop
theorem c50 {b3 b5 : Nat} {A : List Int → List HP} {x0 : Value} {t : Int} (hl : d.es.length ≤ 4000000000) (ht : 0 ≤ t ∧ t < 4294967296) (h : Hs W (rowZ b3 b5 tb hd d s (A []) t) w)
    (hy : ∀ (l : List Int) (t : Int) (w : World) (K : Value → World → Prop), l.length ≤ 4294967295 → Hs W (rowZ b3 b5 tb hd d s (A l) t) w → (∀ w', Hs W (rowZ b3 b5 tb hd d s (A (l ++ [t])) t) w' → K (.bool true) w') → callV Try.prog x0 #[.int .u32 t] w (.one (.one .bool)) K) :
    Calls Try.prog 50 #[x0, .pointer (some ⟨b3, 0, none⟩), .pointer (some ⟨b5, 0, none⟩)] w (rt fun v w' => v = .tuple #[] ∧ ∃ t', Hs W (rowZ b3 b5 tb hd d s (A (rowOf (pl d.es) t)) t') w') := by
  refine F50_ok ?_
  unfold F50
  simp only [rdA_mk]
  have hl' : (pl d.es).length = d.es.length := by simp [pl]
  have loop1 : ∀ (n : Nat) (t : Int) (w1 : World) (k : Nat) (K0 : Value → Value → Value → World → Prop), 0 ≤ t ∧ t < 4294967296 → fitB (pl d.es) (dn1 (goB (pl d.es) n t)) (goB (pl d.es) n t) = false → Hs W (rowZ b3 b5 tb hd d s (A []) t) w1 → n < k →
      (∀ w', Hs W (rowZ b3 b5 tb hd d s (A []) (goB (pl d.es) n t)) w' → K0 x0 (.pointer (some ⟨b3, 0, none⟩)) (.pointer (some ⟨b5, 0, none⟩)) w') →
      F50_1 K0 k x0 (.pointer (some ⟨b3, 0, none⟩)) (.pointer (some ⟨b5, 0, none⟩)) w1 := by
    intro n
    induction n with
    | zero =>
      intro t w1 k K0 ht hf h hk hK
      obtain ⟨k, rfl⟩ : ∃ j, k = j + 1 := ⟨k - 1, by omega⟩
      show F50_1B _ _ _ _ _ _
      unfold F50_1B
      simp only [rdA_mk]
      refine h.ldP 0 rfl rfl (h.ldI 1 rfl rfl (h.ldI 1 rfl rfl ?_))
      refine cl (c51 (rowZ_rt h) _ _) ?_
      rintro _ w6 ⟨rfl, s6⟩
      refine ⟨_, rfl, bt_false hf ?_⟩
      exact hK _ (h.same s6)
    | succ n ih =>
      intro t w1 k K0 ht hf h hk hK
      obtain ⟨k, rfl⟩ : ∃ j, k = j + 1 := ⟨k - 1, by omega⟩
      show F50_1B _ _ _ _ _ _
      unfold F50_1B
      simp only [rdA_mk]
      refine h.ldP 0 rfl rfl (h.ldI 1 rfl rfl (h.ldI 1 rfl rfl ?_))
      refine cl (c51 (rowZ_rt h) _ _) ?_
      rintro _ w6 ⟨rfl, s6⟩
      refine ⟨_, rfl, ?_⟩
      have h6 := h.same s6
      unfold goB at hf hK
      cases hb : fitB (pl d.es) (dn1 t) t with
      | false =>
        rw [hb] at hf hK
        simp only [Bool.false_eq_true, if_false] at hf hK
        exact bt_false hb (hK _ h6)
      | true =>
        rw [hb] at hf hK
        simp only [if_true] at hf hK
        refine bt_true hb ?_
        refine h6.ldI 1 rfl rfl (h6.stc 1 rfl (by simp) fun w10 h10 => ?_)
        exact ih (dn1 t) w10 k K0 (by rw [dn1_mod]; omega) hf h10 (by omega) hK
  have loop2 : ∀ (n : Nat) (l : List Int) (t : Int) (w1 : World) (k : Nat) (K2 : World → Prop), 0 ≤ t ∧ t < 4294967296 → endF (pl d.es) n t → l.length + n ≤ 4294967290 → Hs W (rowZ b3 b5 tb hd d s (A l) t) w1 → n < k →
      (∀ w' t', Hs W (rowZ b3 b5 tb hd d s (A (l ++ goF (pl d.es) n t)) t') w' → K2 w') →
      F50_2 K2 k x0 (.pointer (some ⟨b3, 0, none⟩)) (.pointer (some ⟨b5, 0, none⟩)) w1 := by
    intro n
    induction n with
    | zero =>
      intro l t w1 k K2 ht hf hll h hk hK
      obtain ⟨k, rfl⟩ : ∃ j, k = j + 1 := ⟨k - 1, by omega⟩
      show F50_2B _ _ _ _ _ _
      unfold F50_2B
      simp only [rdA_mk]
      refine h.ldI 1 rfl rfl ?_
      refine hy l t w1 _ (by omega) h fun w4 h4 => ⟨true, rfl, ?_⟩
      rw [br_true]
      refine h4.ldP 0 rfl rfl (h4.ldI 1 rfl rfl (h4.ldI 1 rfl rfl ?_))
      refine cl (c51 (rowZ_rt h4) _ _) ?_
      rintro _ w6 ⟨rfl, s6⟩
      refine ⟨_, rfl, bt_false hf ?_⟩
      exact hK _ _ (h4.same s6)
    | succ n ih =>
      intro l t w1 k K2 ht hf hll h hk hK
      obtain ⟨k, rfl⟩ : ∃ j, k = j + 1 := ⟨k - 1, by omega⟩
      show F50_2B _ _ _ _ _ _
      unfold F50_2B
      simp only [rdA_mk]
      refine h.ldI 1 rfl rfl ?_
      refine hy l t w1 _ (by omega) h fun w4 h4 => ⟨true, rfl, ?_⟩
      rw [br_true]
      refine h4.ldP 0 rfl rfl (h4.ldI 1 rfl rfl (h4.ldI 1 rfl rfl ?_))
      refine cl (c51 (rowZ_rt h4) _ _) ?_
      rintro _ w6 ⟨rfl, s6⟩
      refine ⟨_, rfl, ?_⟩
      have h6 := h4.same s6
      unfold goF at hK
      unfold endF at hf
      cases hb : fitB (pl d.es) t (up1 t) with
      | false =>
        rw [hb] at hK
        simp only [Bool.false_eq_true, if_false] at hK
        exact bt_false hb (hK _ _ h6)
      | true =>
        rw [hb] at hK
        simp only [if_true] at hK
        refine bt_true hb ?_
        refine h6.ldI 1 rfl rfl (h6.stc 1 rfl (by simp) fun w10 h10 => ?_)
        refine ih (l ++ [t]) (up1 t) w10 k K2 (by rw [up1_mod]; omega) (hf hb) (by simp; omega) h10 (by omega) fun w' t' h' => ?_
        rw [List.append_assoc] at h'
        exact hK w' t' h'
  have hs := goB_stop (L := pl d.es) (by omega) ht
  have hr := goB_rng (L := pl d.es) (pl d.es).length ht
  have he := goF_stop (L := pl d.es) (by omega) hr
  refine ⟨(pl d.es).length + 1, loop1 (pl d.es).length t w _ _ ht hs h (by omega) fun w4 h4 _g => ?_⟩
  simp only [rdA_mk]
  refine ⟨(pl d.es).length + 1, loop2 (pl d.es).length [] _ w4 _ _ hr he (by simp; omega) h4 (by omega) fun w9 t' h9 _g => ?_⟩
  rw [List.nil_append] at h9
  exact ⟨by first | rfl | trivial, t', h9⟩
/-- the list that is collected, in its variable -/
def colP (b2 : Nat) (l : List Int) : HP := ex fun p : Option Addr × Nat => bigS [pt b2 (.cells #[.slice p.1 l.length p.2] 33 (0, 0)), slP 30 1 p.1 l.length p.2 (inV .u32 l)]
theorem col_open {b2 : Nat} {l : List Int} (h : Hs W (colP b2 l :: L) w) : ∃ a c, Hs W (pt b2 (.cells #[.slice a l.length c] 33 (0, 0)) :: slP 30 1 a l.length c (inV .u32 l) :: L) w := by
  obtain ⟨p, h⟩ := Hs.cons_ex.1 h
  exact ⟨p.1, p.2, Hs.cons_bigS.1 h⟩
theorem col_shut {b2 : Nat} {l : List Int} {a : Option Addr} {c : Nat} (h : Hs W (pt b2 (.cells #[.slice a l.length c] 33 (0, 0)) :: slP 30 1 a l.length c (inV .u32 l) :: L) w) : Hs W (colP b2 l :: L) w :=
  Hs.cons_ex.2 ⟨(a, c), Hs.cons_bigS.2 h⟩
theorem inV_snoc (k : IntKind) (l : List Int) (t : Int) : inV k (l ++ [t]) = inV k l ++ [.int k t] := by simp [inV]
theorem c49 {b3 b5 : Nat} {t : Int} (hl : d.es.length ≤ 4000000000) (ht : 0 ≤ t ∧ t < 4294967296) (h : Hs W (rowZ b3 b5 tb hd d s L t) w) :
    Calls Try.prog 49 #[.slice none 0 0, .func (.func 50) #[] #[.pointer (some ⟨b3, 0, none⟩), .pointer (some ⟨b5, 0, none⟩)]] w (rt fun v w' => ∃ a c, v = .slice a (rowOf (pl d.es) t).length c ∧ Hs W (slP 30 1 a (rowOf (pl d.es) t).length c (inV .u32 (rowOf (pl d.es) t)) :: (tabL tb hd d s ++ L)) w') := by
  refine F49_ok ?_
  unfold F49
  simp only [rdC_mk]
  refine h.alc fun b2 w3 h3 => ?_
  unfold F49_1
  simp only [rdA_mk]
  refine ⟨50, #[.pointer (some ⟨b3, 0, none⟩), .pointer (some ⟨b5, 0, none⟩)], rfl, by kernel_rfl, fun rec hy => ?_⟩
  have h1 := ((((h3.nil 30 1).alloc (.deferred (some []))).alloc (rec .ready none)))
  have hsz : (w3.alloc (.deferred (some []))).heap.size = w3.heap.size + 1 := by simp
  rw [hsz] at h1
  generalize (w3.alloc (.deferred (some []))).alloc (rec .ready none) = w1 at h1 ⊢
  obtain ⟨l, hl0⟩ : ∃ l, l = w3.heap.size + 1 := ⟨_, rfl⟩
  obtain ⟨D, hD⟩ : ∃ D, D = w3.heap.size := ⟨_, rfl⟩
  rw [← hl0] at h1 hy ⊢
  rw [← hD] at h1 ⊢
  clear h3 h
  have hA : ∃ A : List Int → List HP, A = fun r => pt l (rec .ready none) :: colP b2 r :: pt D (.deferred (some [])) :: L := ⟨_, rfl⟩
  obtain ⟨A, hA⟩ := hA
  have back : ∀ {x y p q r : HP} {X Z : List HP} {w : World}, Hs W (p :: q :: r :: x :: y :: (X ++ Z)) w → Hs W (x :: y :: (X ++ (p :: q :: r :: Z))) w := by
    intro x y p q r X Z w h
    have e : (p :: q :: r :: x :: y :: (X ++ Z)).Perm (x :: y :: (X ++ (p :: q :: r :: Z))) := by
      have := (List.perm_append_comm (l₁ := [p, q, r]) (l₂ := x :: y :: X)).append_right Z
      simpa using this
    exact h.perm e
  have fore : ∀ {x y p q r : HP} {X Z : List HP} {w : World}, Hs W (x :: y :: (X ++ (p :: q :: r :: Z))) w → Hs W (p :: q :: r :: x :: y :: (X ++ Z)) w := by
    intro x y p q r X Z w h
    have e : (p :: q :: r :: x :: y :: (X ++ Z)).Perm (x :: y :: (X ++ (p :: q :: r :: Z))) := by
      have := (List.perm_append_comm (l₁ := [p, q, r]) (l₂ := x :: y :: X)).append_right Z
      simpa using this
    exact h.perm e.symm
  have h2 : Hs W (rowZ b3 b5 tb hd d s (A []) t) w1 := by
    rw [hA]
    refine back ?_
    have h4 : Hs W (pt b2 (.cells #[.slice none 0 0] 33 (0, 0)) :: slP 30 1 none 0 0 [] :: pt l (rec .ready none) :: pt D (.deferred (some [])) :: (pt b3 (.cells #[.pointer (some ⟨tb, 0, none⟩)] 92 (0, 0)) :: pt b5 (.cells #[.int .u32 t] 30 (0, 0)) :: (tabL tb hd d s ++ L))) w1 :=
      h1.perm (by
        refine List.Perm.trans ?_ (List.Perm.swap _ _ _)
        refine List.perm_middle (l₁ := [pt l (rec .ready none), pt D (.deferred (some []))]) |>.trans (List.Perm.cons _ ?_)
        exact (List.perm_middle (l₁ := [pt l (rec .ready none), pt D (.deferred (some []))])))
    have h5 := col_shut (l := []) h4
    exact h5.perm (List.Perm.swap _ _ _)
  show Calls Try.prog 50 #[.func (.yield l) #[] #[], .pointer (some ⟨b3, 0, none⟩), .pointer (some ⟨b5, 0, none⟩)] w1 _
  refine cl (c50 (A := A) hl ht h2 fun r t w2 K hr h2 hK => ?_) ?_
  · rw [hA] at h2
    have h4 := fore h2
    refine .inr ⟨l, rfl, hy _ _ _ (h4.at 0 rfl) ⟨_, rfl, ?_⟩⟩
    have h5 : Hs W (pt l (rec .busy none) :: _) (w2.putObj l (rec .busy none)) := h4.sb 0 rfl (rec .busy none)
    have h6 := h5.perm (List.Perm.swap _ _ _)
    obtain ⟨a, c, h7⟩ := col_open h6
    unfold F49_1r
    simp only [rdA_mk, rdI_mk]
    refine ⟨trivial, ?_⟩
    refine h7.ldC 0 rfl rfl ?_
    unfold alc
    refine h7.push E33 1 rfl (news := #[_]) rfl (by simp [Value.oneCell']) (by omega) (by omega) ?_
    intro a' c' w8 h8
    refine h8.stc 0 rfl (by simp) fun w9 h9 => ?_
    have h10 : Hs W (pt b2 (.cells #[.slice a' (r ++ [t]).length c'] 33 (0, 0)) :: slP 30 1 a' (r ++ [t]).length c' (inV .u32 (r ++ [t])) :: pt l (rec .busy none) :: pt D (.deferred (some [])) :: (pt b3 (.cells #[.pointer (some ⟨tb, 0, none⟩)] 92 (0, 0)) :: pt b5 (.cells #[.int .u32 t] 30 (0, 0)) :: (tabL tb hd d s ++ L))) w9 := by
      have e : (r ++ [t]).length = r.length + 1 := by simp
      rw [e, inV_snoc]
      exact h9
    have h11 := (col_shut h10).perm (List.Perm.swap _ _ _)
    refine ⟨h11.at 0 rfl, true, rfl, ?_⟩
    have h12 : Hs W (pt l (rec .ready none) :: _) (w9.putObj l (rec .ready none)) := h11.sb 0 rfl (rec .ready none)
    refine hK _ ?_
    rw [hA]
    exact back h12
  · rintro _ w2 ⟨rfl, t', h2⟩
    rw [hA] at h2
    have h4 := fore h2
    refine ⟨_, rfl, .inl ⟨h4.at 0 rfl, ?_⟩⟩
    have h5 : Hs W (pt l (rec .exhausted none) :: _) (w2.putObj l (rec .exhausted none)) := h4.sb 0 rfl (rec .exhausted none)
    obtain ⟨a, c, h6⟩ := col_open h5.drop
    refine h6.ldC 0 rfl rfl ?_
    refine ⟨h6.at 2 rfl, fun _g => ?_⟩
    simp only [rdC_mk]
    have h7 : Hs W _ ((w2.putObj l (rec .exhausted none)).putObj D (.deferred none)) := h6.sb 2 rfl (.deferred none)
    refine ⟨a, c, rfl, ?_⟩
    have h8 := h7.drop
    exact (h8.erase 1).erase 1 |>.erase 1
theorem c28 {b3 b5 : Nat} {t : Int} (hl : d.es.length ≤ 4000000000) (ht : 0 ≤ t ∧ t < 4294967296) (h : Hs W (rowZ b3 b5 tb hd d s L t) w) :
    Calls Try.prog 28 #[.func (.func 50) #[] #[.pointer (some ⟨b3, 0, none⟩), .pointer (some ⟨b5, 0, none⟩)]] w (rt fun v w' => ∃ a c, v = .slice a (rowOf (pl d.es) t).length c ∧ Hs W (slP 30 1 a (rowOf (pl d.es) t).length c (inV .u32 (rowOf (pl d.es) t)) :: (tabL tb hd d s ++ L)) w') := by
  refine F28_ok ?_
  unfold F28
  refine cl (c49 hl ht h) ?_
  rintro _ w1 ⟨a, c, rfl, h1⟩
  exact ⟨_, _, _, rfl, a, c, rfl, h1⟩
end
end Go.Proofs.Ytaflmpbeonoilaa
namespace Go.Sh
open Go
theorem own_nilc {w : World} {base : Nat} {e : TypeId} {s l c : Nat} {a : Option Addr} {xs : List Value} (h : Own w base e s a l c xs) : a = none → c = 0 := by
  rcases h.cases with ⟨_, _, hc⟩ | ⟨g, cur, ha, _⟩
  · exact fun _ => hc
  · intro h; rw [h] at ha; cases ha
theorem rd_tail {w : World} {a : Option Addr} {xs : List Value} {c f sz : Nat} (hr : Rd w a xs) (hc : c = f → xs.drop (f * sz) = []) : Rd w (if c = f then a else a.map (·.add (f * sz))) (xs.drop (f * sz)) := by
  by_cases h : c = f
  · rw [if_pos h, hc h]; exact Rd.nil _ _
  · rw [if_neg h]
    intro j u hj
    rw [List.getElem?_drop] at hj
    obtain ⟨ad, e, h⟩ := hr (f * sz + j) u hj
    refine ⟨ad.add (f * sz), by rw [e]; rfl, ?_⟩
    rw [add_add]
    exact h
theorem rd_take {w : World} {a : Option Addr} {xs : List Value} {k : Nat} (hr : Rd w a xs) : Rd w a (xs.take k) := by
  intro j u hj
  rw [List.getElem?_take] at hj
  split at hj
  · exact hr j u hj
  · cases hj
section
variable {W w : World} {L : List HP} {P : Program} {t ty e : TypeId} {size bytes : Nat} {z : Value} {inf : TypeInfo} {a oa : Option Addr} {l c ol oc n : Nat} {xs ys : List Value} {k : IntKind}
theorem Hs.appHi (E : ElemT P t e size bytes z inf) (h : Hs W L w) (i j : Nat) (hi : L[i]? = some (slP e size oa ol oc xs)) (hj : L[j]? = some (slP e size a l c ys)) (hnl : n ≤ l) (h1 : ∀ u ∈ ys, u.oneCell' = true) (hn : ol + n ≤ 281474976710656) (hb : (ol + n) * bytes ≤ 140737488355328)
    {K : Option Addr → Nat → Nat → World → Prop} (hk : ∀ a' c' w', Hs W (L.set i (slP e size a' (ol + n) c' (xs ++ ys.take (n * size)))) w' → K a' (ol + n) c' w') :
    slS size a l c none (some (.int k (n : Int))) fun b m d => ∃ a' l' c' w', Sem.run P (Builtin.append_ #[t, t] ty #[.slice oa ol oc, .slice b m d]) w = .ok (.slice a' l' c') w' ∧ K a' l' c' w' := by
  have ho := h.own j hj
  refine slS_hi (Nat.le_trans hnl ho.le) ?_
  have hlen := ho.length
  refine h.appendA E i hi (m := n) (news := ys.take (n * size)) ?_ (rd_take ho.rd) (fun h => own_nilc ho h) (fun u hu => h1 u (List.mem_of_mem_take hu)) hn hb fun a' c' w' h' _ => hk a' c' w' h'
  rw [List.length_take, hlen]
  exact Nat.min_eq_left (Nat.mul_le_mul_right size hnl)
theorem Hs.appLo (E : ElemT P t e size bytes z inf) (h : Hs W L w) (i j : Nat) (hi : L[i]? = some (slP e size oa ol oc xs)) (hj : L[j]? = some (slP e size a l c ys)) (hnl : n ≤ l) (h1 : ∀ u ∈ ys, u.oneCell' = true) (hn : ol + l ≤ 281474976710656) (hb : (ol + l) * bytes ≤ 140737488355328)
    {K : Option Addr → Nat → Nat → World → Prop} (hk : ∀ a' c' w', Hs W (L.set i (slP e size a' (ol + (l - n)) c' (xs ++ ys.drop (n * size)))) w' → K a' (ol + (l - n)) c' w') :
    slS size a l c (some (.int k (n : Int))) none fun b m d => ∃ a' l' c' w', Sem.run P (Builtin.append_ #[t, t] ty #[.slice oa ol oc, .slice b m d]) w = .ok (.slice a' l' c') w' ∧ K a' l' c' w' := by
  have ho := h.own j hj
  refine slS_lo hnl ?_
  have hlen := ho.length
  have hle := ho.le
  refine h.appendA E i hi (m := l - n) (news := ys.drop (n * size)) ?_ (rd_tail ho.rd fun hc => ?_) (fun h => ?_) (fun u hu => h1 u (List.mem_of_mem_drop hu)) (by omega) (Nat.le_trans (Nat.mul_le_mul_right bytes (by omega)) hb) fun a' c' w' h' _ => hk a' c' w' h'
  · rw [List.length_drop, hlen, Nat.sub_mul]
  · have : n = l := by omega
    subst this
    exact List.drop_eq_nil_of_le (by omega)
  · by_cases hcf : c = n
    · omega
    · rw [if_neg hcf] at h
      cases ha : a with
      | none => rw [own_nilc ho ha]; omega
      | some x => rw [ha] at h; cases h
end
end Go.Sh
