/-
  Reading a table: what is held, what fits.
-/
import Derived.Test.YtaflmpbeonoilaaRmA
namespace Go.Proofs.Ytaflmpbeonoilaa
open Go Go.Sh
section
variable {W w : World} {L M : List HP} {tb mc mf : Nat} {hd : Int} {d : TD} {s : St} {es : List Ec}
abbrev pl (es : List Ec) : List Ch := es.map Ec.x
theorem c30 (x : R35) (m : Int) (w : World) : Calls Try.prog 30 #[x.v, .int .u8 m] w (rt fun v w' => v = .bool (hr x m) ∧ Same w w') := by
  refine F30_ok ?_
  unfold F30
  refine exR35_of x ⟨rfl, ?_⟩
  simp only [rdI_mk, add_mk]
  refine (Hs.start w).alc fun b w1 h1 => ?_
  refine h1.ldI 0 rfl rfl ?_
  exact ⟨rfl, h1.old⟩
/-- a table that can be read -/
structure RT (w : World) (tb mc mf : Nat) (es : List Ec) (F : List Int) : Prop where
  blk : ∃ cs, w.heap[tb]? = some (.cells cs 70 (0, 0)) ∧ cs[0]? = some (.map (some mc)) ∧ cs[1]? = some (.map (some mf))
  map : MapV .u32 w mc (cMap es)
  fix : MapV .u32 w mf (fMap F)
variable {F : List Int}
theorem RT.same {w' : World} (h : RT w tb mc mf es F) (hs : Same w w') : RT w' tb mc mf es F := by
  obtain ⟨⟨cs, h1, h2⟩, h3, h4⟩ := h
  exact ⟨⟨cs, hs.blk h1 fun x => x, h2⟩, h3.fr hs fun x => x, h4.fr hs fun x => x⟩
theorem tab_rt (h : Hs W (tabL tb hd d s ++ L) w) : RT w tb d.mc d.mf d.es s.F := ⟨⟨_, h.at 0 rfl, rfl, rfl⟩, h.mapv 1 rfl, h.mapv 2 rfl⟩
/-- what a look-up tells -/
theorem RT.look (h : RT w tb mc mf es F) (k : Int) : ∃ s : R35, (∀ ok, lookF Try.prog 30 36 (.map (some mc)) (.int .u32 k) ok w = some (if ok then .tuple #[s.v, .bool (look (pl es) k).isSome] else s.v)) ∧
    (∀ x, Go.Proofs.Ytaflmpbeonoilaa.look (pl es) k = some x → ∃ e, (es.find? fun e => e.x.tsn == k) = some e ∧ e.x = x ∧ s = e.rc) := by
  cases hl : Go.Proofs.Ytaflmpbeonoilaa.look (pl es) k with
  | none =>
    obtain ⟨_, hn⟩ := look_none hl
    refine ⟨R35.z, fun ok => ?_, fun x hx => by cases hx⟩
    cases ok with
    | true => rw [look_val_ok u30 z36 h.map, hn]; rfl
    | false => rw [look_val u30 z36 h.map, hn]; rfl
  | some x =>
    obtain ⟨e, he, hx, hn⟩ := look_map hl
    refine ⟨e.rc, fun ok => ?_, fun y hy => ?_⟩
    · have hn' : cMap es k = some e.rc.v := by unfold cMap; rw [he]; rfl
      cases ok with
      | true => rw [look_val_ok u30 z36 h.map, hn']; rfl
      | false => rw [look_val u30 z36 h.map, hn']; rfl
    · cases hy; exact ⟨e, he, hx, rfl⟩
theorem RT.ldC0 (h : RT w tb mc mf es F) {K : Option Nat → Prop} (hk : K (some mc)) : ldM (Addr.mk tb 0 none) w K := by
  obtain ⟨⟨cs, h1, h2, _⟩, _⟩ := h
  exact ldM_at h1 h2 hk
theorem RT.ldC1 (h : RT w tb mc mf es F) {K : Option Nat → Prop} (hk : K (some mf)) : ldM (Addr.mk tb 1 none) w K := by
  obtain ⟨⟨cs, h1, _, h2⟩, _⟩ := h
  exact ldM_at h1 h2 hk
theorem bt_false {b : Bool} {A B : Prop} (h : b = false) (k : B) : br b A B := by subst h; exact k
theorem bt_true {b : Bool} {A B : Prop} (h : b = true) (k : A) : br b A B := by subst h; exact k
theorem c51 (h : RT w tb mc mf es F) (a b : Int) : Calls Try.prog 51 #[.pointer (some ⟨tb, 0, none⟩), .int .u32 a, .int .u32 b] w (rt fun v w' => v = .bool (fitB (pl es) a b) ∧ Same w w') := by
  refine F51_ok ?_
  unfold F51
  simp only [rdP_mk, rdI_mk, nn_some, add_mk]
  refine h.ldC0 ?_
  obtain ⟨s1, h1, g1⟩ := h.look a
  refine exR35_of s1 ⟨_, h1 true, ?_⟩
  refine (Hs.start w).alc fun b8 w9 h9 => ?_
  refine h9.stcL 0 rfl rfl fun w10 h10 => ?_
  refine (h.same h10.old).ldC0 ?_
  obtain ⟨s2, h2, g2⟩ := (h.same h10.old).look b
  refine exR35_of s2 ⟨_, h2 true, ?_⟩
  refine h10.alc fun b15 w16 h16 => ?_
  refine h16.stcL 0 rfl rfl fun w17 h17 => ?_
  refine h17.drw fun w18 h18 => ?_
  have h18 : Hs w [pt b15 (.cells s2.c 36 (0, 0)), pt b8 (.cells s1.c 36 (0, 0))] w18 := h18
  refine ⟨w18, Pres.refl _, ?_⟩
  have no : ∀ {w' : World}, Same w w' → fitB (pl es) a b = false → Value.bool false = Value.bool (fitB (pl es) a b) ∧ Same w w' := fun hs e => ⟨by rw [e], hs⟩
  cases ha : look (pl es) a with
  | none =>
    rw [ha] at h1
    simp only [Option.isSome_none, br_false]
    exact no h18.old (by unfold fitB; rw [ha])
  | some x =>
  cases hb : look (pl es) b with
  | none =>
    simp only [Option.isSome_none, Option.isSome_some, br_false, br_true]
    exact no h18.old (by unfold fitB; rw [ha, hb])
  | some y =>
  simp only [Option.isSome_some, br_true]
  obtain ⟨e1, _, hx, rfl⟩ := g1 x ha
  obtain ⟨e2, _, hy, rfl⟩ := g2 y hb
  have hf : fitB (pl es) a b = fit2 x y := by unfold fitB; rw [ha, hb]
  have r1 : ∀ m, hr e1.rc m = x.has m := fun m => by rw [← hx]; rfl
  have r2 : ∀ m, hr e2.rc m = y.has m := fun m => by rw [← hy]; rfl
  rw [hf] at no ⊢
  refine ldR35_of (s := e2.rc) (h18.atL 0 rfl) ?_
  refine cl (c30 _ _ _) ?_
  rintro _ w21 ⟨rfl, s21⟩
  refine ⟨_, rfl, Pres.of_Same s21, ?_⟩
  have h21 := h18.same s21
  rw [r2]
  cases e2' : y.has 2 with
  | true =>
    simp only [Bool.not_true, br_false]
    exact no h21.old (by unfold fit2; rw [e2']; rfl)
  | false =>
  simp only [Bool.not_false, br_true]
  refine ldR35_of (s := e1.rc) (h21.atL 1 rfl) ?_
  refine cl (c30 _ _ _) ?_
  rintro _ w25 ⟨rfl, s25⟩
  have h25 := h21.same s25
  refine ⟨_, rfl, Pres.of_Same (s21.trans s25 fun _ _ x => x), ?_⟩
  rw [r1]
  cases e1' : x.has 1 with
  | true =>
    simp only [Bool.not_true, br_false]
    exact no h25.old (by unfold fit2; rw [e2', e1']; rfl)
  | false =>
  simp only [Bool.not_false, br_true]
  refine h25.ldI 1 rfl rfl (h25.ldI 0 rfl rfl ?_)
  have f3 : e1.rc.f3 = x.r.f3 := by rw [← hx]; rfl
  have f3' : e2.rc.f3 = y.r.f3 := by rw [← hy]; rfl
  have f4 : e1.rc.f4 = x.r.f4 := by rw [← hx]; rfl
  have f4' : e2.rc.f4 = y.r.f4 := by rw [← hy]; rfl
  rw [f3, f3']
  cases e3 : x.r.f3 == y.r.f3 with
  | false =>
    rw [br_false]
    exact no h25.old (by unfold fit2; rw [e2', e1', e3]; rfl)
  | true =>
  rw [br_true]
  refine h25.ldI 1 rfl rfl (h25.ldI 0 rfl rfl ?_)
  rw [f4, f4']
  cases e4 : x.r.f4 == y.r.f4 with
  | false =>
    rw [br_false]
    exact no h25.old (by unfold fit2; rw [e2', e1', e3, e4]; rfl)
  | true =>
  rw [br_true]
  refine ldR35_of (s := e1.rc) (h25.atL 1 rfl) ?_
  refine ldR35_of (s := e2.rc) (h18.atL 0 rfl) ?_
  refine cl (c30 _ _ _) ?_
  rintro _ w34 ⟨rfl, s34⟩
  refine ⟨_, rfl, Pres.of_Same ((s21.trans s25 fun _ _ x => x).trans s34 fun _ _ x => x), ?_⟩
  refine cl (c30 _ _ _) ?_
  rintro _ w37 ⟨rfl, s37⟩
  refine ⟨_, rfl, ?_, ((h25.same s34).same s37).old⟩
  rw [r1, r2]
  unfold fit2
  rw [e2', e1', e3, e4]
  rfl
end
end Go.Proofs.Ytaflmpbeonoilaa
namespace Go.Proofs.Ytaflmpbeonoilaa
open Go Go.Sh
theorem up1_mod (t : Int) : up1 t = (t + 1) % 4294967296 := by unfold up1; rw [wrap_u32_mod]
theorem dn1_mod (t : Int) : dn1 t = (t - 1) % 4294967296 := by unfold dn1; rw [wrap_u32_mod]
theorem look_some {L : List Ch} {t : Int} {x : Ch} (h : look L t = some x) : x ∈ L ∧ x.tsn = t :=
  ⟨List.mem_of_find?_eq_some h, by simpa using List.find?_some h⟩
theorem look_mem {L : List Ch} (hn : (L.map Ch.tsn).Nodup) {x : Ch} (h : x ∈ L) : look L x.tsn = some x := by
  unfold look
  induction L with
  | nil => cases h
  | cons y L ih =>
    rw [List.map_cons, List.nodup_cons] at hn
    rw [List.find?_cons]
    rcases List.mem_cons.1 h with rfl | h
    · simp
    · have : (y.tsn == x.tsn) = false := by
        rw [beq_eq_false_iff_ne]
        intro e
        exact hn.1 (by rw [e]; exact List.mem_map.2 ⟨x, h, rfl⟩)
      rw [this]
      exact ih hn.2 h
theorem look_isSome {L : List Ch} {t : Int} : (look L t).isSome = true ↔ t ∈ L.map Ch.tsn := by
  unfold look
  rw [List.find?_isSome]
  constructor
  · rintro ⟨x, h, e⟩
    exact List.mem_map.2 ⟨x, h, by simpa using e⟩
  · intro h
    obtain ⟨x, h1, e⟩ := List.mem_map.1 h
    exact ⟨x, h1, by simp [e]⟩
theorem fit_held {L : List Ch} {a b : Int} (h : fitB L a b = true) : ∃ x y, look L a = some x ∧ look L b = some y ∧ fit2 x y = true := by
  unfold fitB at h
  cases ha : look L a with
  | none => rw [ha] at h; cases h
  | some x =>
    cases hb : look L b with
    | none => rw [ha, hb] at h; cases h
    | some y => rw [ha, hb] at h; exact ⟨x, y, rfl, rfl, h⟩
theorem fit_mem {L : List Ch} {a b : Int} (h : fitB L a b = true) : a ∈ L.map Ch.tsn ∧ b ∈ L.map Ch.tsn := by
  obtain ⟨x, y, ha, hb, _⟩ := fit_held h
  exact ⟨look_isSome.1 (by rw [ha]; rfl), look_isSome.1 (by rw [hb]; rfl)⟩
theorem nodup_sub_len {α : Type} [DecidableEq α] : ∀ (l l' : List α), l.Nodup → (∀ x ∈ l, x ∈ l') → l.length ≤ l'.length
  | [], _, _, _ => Nat.zero_le _
  | a :: r, l', hn, hs => by
    rw [List.nodup_cons] at hn
    have ha := hs a (by simp)
    have := nodup_sub_len r (l'.erase a) hn.2 fun x hx => (List.mem_erase_of_ne (fun e => hn.1 (by rw [← e]; exact hx))).2 (hs x (by simp [hx]))
    rw [List.length_erase_of_mem ha] at this
    have := List.length_pos_of_mem ha
    simp; omega
/-- numbers one behind the other, all of them held: there are not more of them than chunks -/
theorem run_len {L : List Ch} {t : Int} {n : Nat} (hl : n ≤ 4294967295) (h : ∀ i : Nat, i ≤ n → (t + (i : Int)) % 4294967296 ∈ L.map Ch.tsn) : n + 1 ≤ L.length := by
  have := nodup_sub_len ((List.range (n + 1)).map fun i : Nat => (t + (i : Int)) % 4294967296) (L.map Ch.tsn) ?_ ?_
  · simpa using this
  · unfold List.Nodup
    rw [List.pairwise_map]
    refine List.Pairwise.imp_of_mem ?_ (List.nodup_range (n := n + 1))
    intro a b ha hb hab
    rw [List.mem_range] at ha hb
    omega
  · intro x hx
    obtain ⟨i, hi, rfl⟩ := List.mem_map.1 hx
    rw [List.mem_range] at hi
    exact h i (by omega)
section
variable {L : List Ch}
theorem goB_rng : ∀ (n : Nat) {t : Int}, 0 ≤ t ∧ t < 4294967296 → 0 ≤ goB L n t ∧ goB L n t < 4294967296
  | 0, _, h => h
  | n + 1, t, h => by
    unfold goB
    split
    · exact goB_rng n (by rw [dn1_mod]; omega)
    · exact h
theorem goB_far : ∀ (n : Nat) {t : Int}, 0 ≤ t ∧ t < 4294967296 → fitB L (dn1 (goB L n t)) (goB L n t) = false ∨ ∀ i : Nat, i ≤ n + 1 → (t - (i : Int)) % 4294967296 ∈ L.map Ch.tsn
  | 0, t, h => by
    cases hf : fitB L (dn1 t) t with
    | false => exact .inl hf
    | true =>
      obtain ⟨m1, m2⟩ := fit_mem hf
      refine .inr fun i hi => ?_
      rcases (show i = 0 ∨ i = 1 by omega) with rfl | rfl
      · have : (t - ((0 : Nat) : Int)) % 4294967296 = t := by omega
        rw [this]; exact m2
      · rw [dn1_mod] at m1; exact m1
  | n + 1, t, h => by
    unfold goB
    cases hf : fitB L (dn1 t) t with
    | false => left; simpa using hf
    | true =>
      simp only [if_true]
      have hr : 0 ≤ dn1 t ∧ dn1 t < 4294967296 := by rw [dn1_mod]; omega
      rcases goB_far n hr with h1 | h1
      · exact .inl h1
      · right
        intro i hi
        cases i with
        | zero =>
          have : (t - ((0 : Nat) : Int)) % 4294967296 = t := by omega
          rw [this]; exact (fit_mem hf).2
        | succ i =>
          have := h1 i (by omega)
          rw [dn1_mod] at this
          have e : ((t - 1) % 4294967296 - (i : Int)) % 4294967296 = (t - ((i + 1 : Nat) : Int)) % 4294967296 := by omega
          rw [e] at this
          exact this
theorem goB_stop (hl : L.length ≤ 4294967290) {t : Int} (ht : 0 ≤ t ∧ t < 4294967296) : fitB L (dn1 (goB L L.length t)) (goB L L.length t) = false := by
  rcases goB_far L.length ht with h | h
  · exact h
  · exfalso
    have := run_len (L := L) (t := t - ((L.length + 1 : Nat) : Int)) (n := L.length + 1) (by omega) fun i hi => by
      have := h (L.length + 1 - i) (by omega)
      have e : (t - ((L.length + 1 - i : Nat) : Int)) % 4294967296 = (t - ((L.length + 1 : Nat) : Int) + (i : Int)) % 4294967296 := by omega
      rw [e] at this
      exact this
    omega
/-- the last one of these numbers has none behind it -/
def endF (L : List Ch) : Nat → Int → Prop
  | 0, t => fitB L t (up1 t) = false
  | n + 1, t => fitB L t (up1 t) = true → endF L n (up1 t)
theorem goF_far : ∀ (n : Nat) {t : Int}, 0 ≤ t ∧ t < 4294967296 → endF L n t ∨ ∀ i : Nat, i ≤ n + 1 → (t + (i : Int)) % 4294967296 ∈ L.map Ch.tsn
  | 0, t, h => by
    cases hf : fitB L t (up1 t) with
    | false => exact .inl hf
    | true =>
      obtain ⟨m1, m2⟩ := fit_mem hf
      refine .inr fun i hi => ?_
      rcases (show i = 0 ∨ i = 1 by omega) with rfl | rfl
      · have : (t + ((0 : Nat) : Int)) % 4294967296 = t := by omega
        rw [this]; exact m1
      · rw [up1_mod] at m2; exact m2
  | n + 1, t, h => by
    cases hf : fitB L t (up1 t) with
    | false => left; intro h; rw [hf] at h; cases h
    | true =>
      have hr : 0 ≤ up1 t ∧ up1 t < 4294967296 := by rw [up1_mod]; omega
      rcases goF_far n hr with h1 | h1
      · exact .inl fun _ => h1
      · right
        intro i hi
        cases i with
        | zero =>
          have : (t + ((0 : Nat) : Int)) % 4294967296 = t := by omega
          rw [this]; exact (fit_mem hf).1
        | succ i =>
          have := h1 i (by omega)
          rw [up1_mod] at this
          have e : ((t + 1) % 4294967296 + (i : Int)) % 4294967296 = (t + ((i + 1 : Nat) : Int)) % 4294967296 := by omega
          rw [e] at this
          exact this
theorem goF_stop (hl : L.length ≤ 4294967290) {t : Int} (ht : 0 ≤ t ∧ t < 4294967296) : endF L L.length t := by
  rcases goF_far L.length ht with h | h
  · exact h
  · exfalso
    have := run_len (L := L) (t := t) (n := L.length + 1) (by omega) h
    omega
theorem goF_len : ∀ (n : Nat) (t : Int), 1 ≤ (goF L n t).length ∧ (goF L n t).length ≤ n + 1
  | 0, t => by simp [goF]
  | n + 1, t => by
    unfold goF
    rw [List.length_cons]
    split
    · have := goF_len n (up1 t); omega
    · simp
theorem goF_head (n : Nat) (t : Int) : ∃ r, goF L n t = t :: r := by cases n <;> exact ⟨_, rfl⟩
/-- numbers one behind the other that fit: from a first one, so many more -/
def fitsN (L : List Ch) (f : Int) (n : Nat) : Prop := ∀ i : Nat, i < n → fitB L ((f + (i : Int)) % 4294967296) ((f + ((i + 1 : Nat) : Int)) % 4294967296) = true
def numsN (f : Int) (n : Nat) : List Int := (List.range (n + 1)).map fun i : Nat => (f + (i : Int)) % 4294967296
theorem numsN_zero {f : Int} (h : 0 ≤ f ∧ f < 4294967296) : numsN f 0 = [f] := by
  show [(f + ((0 : Nat) : Int)) % 4294967296] = [f]
  congr 1; omega
theorem numsN_succ {f : Int} (n : Nat) (h : 0 ≤ f ∧ f < 4294967296) : numsN f (n + 1) = f :: numsN (up1 f) n := by
  unfold numsN
  rw [List.range_succ_eq_map, List.map_cons, List.map_map]
  congr 1
  · omega
  · refine List.map_congr_left fun i _ => ?_
    simp only [Function.comp, up1_mod]
    omega
theorem goF_nums : ∀ (n : Nat) {t : Int}, 0 ≤ t ∧ t < 4294967296 → endF L n t → ∃ m, m ≤ n ∧ goF L n t = numsN t m ∧ fitsN L t m ∧ fitB L ((t + (m : Int)) % 4294967296) (up1 ((t + (m : Int)) % 4294967296)) = false
  | 0, t, h, he => ⟨0, Nat.le_refl _, (numsN_zero h).symm, fun i hi => by omega, by
      have : (t + ((0 : Nat) : Int)) % 4294967296 = t := by omega
      rw [this]; exact he⟩
  | n + 1, t, h, he => by
    cases hf : fitB L t (up1 t) with
    | false =>
      refine ⟨0, Nat.zero_le _, ?_, fun i hi => by omega, ?_⟩
      · rw [numsN_zero h]; unfold goF; rw [hf]; rfl
      · have : (t + ((0 : Nat) : Int)) % 4294967296 = t := by omega
        rw [this]; exact hf
    | true =>
      have hr : 0 ≤ up1 t ∧ up1 t < 4294967296 := by rw [up1_mod]; omega
      obtain ⟨m, hm, h1, h2, h3⟩ := goF_nums n hr (he hf)
      refine ⟨m + 1, by omega, ?_, ?_, ?_⟩
      · rw [numsN_succ m h]; unfold goF; rw [hf, if_pos rfl, h1]
      · intro i hi
        cases i with
        | zero =>
          have e1 : (t + ((0 : Nat) : Int)) % 4294967296 = t := by omega
          have e2 : (t + ((0 + 1 : Nat) : Int)) % 4294967296 = up1 t := by rw [up1_mod]; omega
          rw [e1, e2]; exact hf
        | succ i =>
          have := h2 i (by omega)
          rw [up1_mod] at this
          have e1 : ((t + 1) % 4294967296 + (i : Int)) % 4294967296 = (t + ((i + 1 : Nat) : Int)) % 4294967296 := by omega
          have e2 : ((t + 1) % 4294967296 + ((i + 1 : Nat) : Int)) % 4294967296 = (t + ((i + 1 + 1 : Nat) : Int)) % 4294967296 := by omega
          rw [e1, e2] at this
          exact this
      · rw [up1_mod t] at h3
        have e1 : ((t + 1) % 4294967296 + (m : Int)) % 4294967296 = (t + ((m + 1 : Nat) : Int)) % 4294967296 := by omega
        rw [e1] at h3
        exact h3
theorem goB_nums : ∀ (n : Nat) {t : Int}, 0 ≤ t ∧ t < 4294967296 → ∃ m, m ≤ n ∧ t = (goB L n t + (m : Int)) % 4294967296 ∧ fitsN L (goB L n t) m
  | 0, t, h => ⟨0, Nat.le_refl _, by show t = (t + ((0 : Nat) : Int)) % 4294967296; omega, fun i hi => by omega⟩
  | n + 1, t, h => by
    unfold goB
    cases hf : fitB L (dn1 t) t with
    | false =>
      simp only [Bool.false_eq_true, if_false]
      exact ⟨0, Nat.zero_le _, by omega, fun i hi => by omega⟩
    | true =>
      simp only [if_true]
      have hr : 0 ≤ dn1 t ∧ dn1 t < 4294967296 := by rw [dn1_mod]; omega
      obtain ⟨m, hm, h1, h2⟩ := goB_nums n hr
      have hdn := dn1_mod t
      refine ⟨m + 1, by omega, by omega, fun i hi => ?_⟩
      by_cases hi' : i < m
      · exact h2 i hi'
      · have : i = m := by omega
        subst this
        have e1 : (goB L n (dn1 t) + (i : Int)) % 4294967296 = dn1 t := h1.symm
        have e2 : (goB L n (dn1 t) + ((i + 1 : Nat) : Int)) % 4294967296 = t := by omega
        rw [e1, e2]; exact hf
end
end Go.Proofs.Ytaflmpbeonoilaa
